/- The walk through the code that the statement reaches: what each function computes. Conditions: none but those in each line. -/
import Derived.Test.YtlcogkfjjlclmaaWShapesLikeb
namespace Go.Proofs.Ytlcogkfjjlclmaa.WShapesLike
open Go.K Go.RowKit
set_option linter.unusedVariables false
set_option linter.unusedSimpArgs false

/-! ### (*loop.example/g01210/impl.factors).grow: function 73 -/
def impl_factors_grow__c1.l0 (K : Nat) (y2 : (Ar 121)) (a1 : Int) (rec : ((Ar 121) → (Ar 31) → (Ar 31) → Int → Int → (List ((Ar 6) × (Ar 6))) → Int → Option (Unit × ((Ar 31) × (Ar 31) × Int × Int × (List ((Ar 6) × (Ar 6))))))) (t22 : Int) : Nat → Int → (Ar 31) → (Ar 31) → Int → Int → (List ((Ar 6) × (Ar 6))) → Option ((Ar 31) × (Ar 31) × Int × Int × (List ((Ar 6) × (Ar 6))))
  | 0, _, _, _, _, _, _ => none
  | k + 1, x60, x61, x62, x63, x64, x66 => if x60 ≤ x63 then (if (wrap64 (x60 * (x62.get 0))) ≤ (wrap64 ((y2.get a1) - t22)) then (if (x61.get 0) ≠ 0 then (if (wrap64 ((wrap64 (x60 * (x62.get 0))) + (wrap64 ((wrap64 ((wrap64 ((wrap64 ((y2.get a1) - t22)) - (wrap64 (x60 * (x62.get 0))))).tdiv (x61.get 0))) * (x61.get 0))))) = (wrap64 ((y2.get a1) - t22)) then (if x64 < (wrap64 ((wrap64 ((wrap64 ((y2.get a1) - t22)) - (wrap64 (x60 * (x62.get 0))))).tdiv (x61.get 0))) then (impl_factors_grow__c1.l0 K y2 a1 rec t22 k (wrap64 (x60 + 1)) x61 x62 x63 x64 x66) else (if (0 : Int) ≤ a1 ∧ a1 < 31 then ((rec y2 (x61.set a1 x60) (x62.set a1 (wrap64 ((wrap64 ((wrap64 ((y2.get a1) - t22)) - (wrap64 (x60 * (x62.get 0))))).tdiv (x61.get 0)))) (wrap64 (x63 - x60)) (wrap64 (x64 - (wrap64 ((wrap64 ((wrap64 ((y2.get a1) - t22)) - (wrap64 (x60 * (x62.get 0))))).tdiv (x61.get 0))))) x66 (wrap64 (a1 + 1))).bind fun t73 => impl_factors_grow__c1.l0 K y2 a1 rec t22 k (wrap64 (x60 + 1)) (t73.2.1.set a1 0) (t73.2.2.1.set a1 0) (wrap64 (t73.2.2.2.1 + x60)) (wrap64 (t73.2.2.2.2.1 + (wrap64 ((wrap64 ((wrap64 ((y2.get a1) - t22)) - (wrap64 (x60 * (x62.get 0))))).tdiv (x61.get 0))))) t73.2.2.2.2.2) else none)) else (impl_factors_grow__c1.l0 K y2 a1 rec t22 k (wrap64 (x60 + 1)) x61 x62 x63 x64 x66)) else none) else (some (x61, x62, x63, x64, x66))) else (some (x61, x62, x63, x64, x66))
def impl_factors_grow__c1.g (K : Nat) (rec : ((Ar 121) → (Ar 31) → (Ar 31) → Int → Int → (List ((Ar 6) × (Ar 6))) → Int → Option (Unit × ((Ar 31) × (Ar 31) × Int × Int × (List ((Ar 6) × (Ar 6))))))) (y2 : (Ar 121)) (y3 : (Ar 31)) (y4 : (Ar 31)) (y5 : Int) (y6 : Int) (y8 : (List ((Ar 6) × (Ar 6)))) (a1 : Int) : Option (Unit × ((Ar 31) × (Ar 31) × Int × Int × (List ((Ar 6) × (Ar 6))))) := if 60 < a1 then (if y5 = 0 then (if y6 = 0 then ((impl_die.f K y3).bind fun t12 => (impl_die.f K y4).bind fun t14 => (impl_pairOf.f K t12 t14).bind fun t16 => if y8.length + [t16].length ≤ 1073741824 then (some ((), (y3, y4, y5, y6, (y8 ++ [t16])))) else none) else (some ((), (y3, y4, y5, y6, y8)))) else (some ((), (y3, y4, y5, y6, y8)))) else (if (0 : Int) ≤ a1 ∧ a1 < 121 then ((impl_factors_known__c.f K y8 y2 y3 y4 y5 y6 a1).bind fun t22 => if 30 < a1 then (if (wrap64 ((y2.get a1) - t22)) = 0 then ((rec y2 y3 y4 y5 y6 y8 (wrap64 (a1 + 1))).bind fun t26 => some ((), (t26.2.1, t26.2.2.1, t26.2.2.2.1, t26.2.2.2.2.1, t26.2.2.2.2.2))) else (some ((), (y3, y4, y5, y6, y8)))) else ((impl_factors_grow__c1.l0 K y2 a1 rec t22 K 0 y3 y4 y5 y6 y8).bind fun (x54, x55, x56, x57, x59) => some ((), (x54, x55, x56, x57, x59)))) else none)
def impl_factors_grow__c1.r (K : Nat) : Nat → (Ar 121) → (Ar 31) → (Ar 31) → Int → Int → (List ((Ar 6) × (Ar 6))) → Int → Option (Unit × ((Ar 31) × (Ar 31) × Int × Int × (List ((Ar 6) × (Ar 6)))))
  | 0 => fun _ _ _ _ _ _ _ => none
  | k + 1 => fun y2 y3 y4 y5 y6 y8 a1 => impl_factors_grow__c1.g K (impl_factors_grow__c1.r K k) y2 y3 y4 y5 y6 y8 a1
def impl_factors_grow__c1.f (K : Nat) (y2 : (Ar 121)) (y3 : (Ar 31)) (y4 : (Ar 31)) (y5 : Int) (y6 : Int) (y8 : (List ((Ar 6) × (Ar 6)))) (a1 : Int) : Option (Unit × ((Ar 31) × (Ar 31) × Int × Int × (List ((Ar 6) × (Ar 6))))) := impl_factors_grow__c1.r K K y2 y3 y4 y5 y6 y8 a1
set_option maxRecDepth 100000 in
set_option maxHeartbeats 4000000 in
theorem impl_factors_grow__c1.step (K : Nat) (rec : ((Ar 121) → (Ar 31) → (Ar 31) → Int → Int → (List ((Ar 6) × (Ar 6))) → Int → Option (Unit × ((Ar 31) × (Ar 31) × Int × Int × (List ((Ar 6) × (Ar 6))))))) (hrec : ∀ {w0 : World} {X : List Nat} (b1 : Nat) (y2 : (Ar 121)) (y3 : (Ar 31)) (y4 : (Ar 31)) (y5 : Int) (y6 : Int)  (v7 : Value) (y8 : (List ((Ar 6) × (Ar 6)))) (a1 : Int) (qM : Ms X w0 w0 [boxR b1 [Pt.ar y2, Pt.ar y3, Pt.ar y4, Pt.int y5, Pt.int y6, Pt.any v7] 75, rowR cd50 v7 y8]) (r : (Unit × ((Ar 31) × (Ar 31) × Int × Int × (List ((Ar 6) × (Ar 6)))))) (H : rec y2 y3 y4 y5 y6 y8 a1 = some r), Calls Try.prog 73 [pt b1 0, Value.int .i64 a1].toArray w0 (fun e w => ∃ v, e = .returned v ∧ ∃ v78 : Value, Ms X w0 w [boxR b1 [Pt.ar y2, Pt.ar r.2.1, Pt.ar r.2.2.1, Pt.int r.2.2.2.1, Pt.int r.2.2.2.2.1, Pt.any v78] 75, rowR cd50 v78 r.2.2.2.2.2] ∧ Value.tuple #[] = v)) {w0 : World} {X : List Nat} (b1 : Nat) (y2 : (Ar 121)) (y3 : (Ar 31)) (y4 : (Ar 31)) (y5 : Int) (y6 : Int)  (v7 : Value) (y8 : (List ((Ar 6) × (Ar 6)))) (a1 : Int) (qM : Ms X w0 w0 [boxR b1 [Pt.ar y2, Pt.ar y3, Pt.ar y4, Pt.int y5, Pt.int y6, Pt.any v7] 75, rowR cd50 v7 y8]) (r : (Unit × ((Ar 31) × (Ar 31) × Int × Int × (List ((Ar 6) × (Ar 6)))))) (H : impl_factors_grow__c1.g K rec y2 y3 y4 y5 y6 y8 a1 = some r) : Calls Try.prog 73 [pt b1 0, Value.int .i64 a1].toArray w0 (fun e w => ∃ v, e = .returned v ∧ ∃ v78 : Value, Ms X w0 w [boxR b1 [Pt.ar y2, Pt.ar r.2.1, Pt.ar r.2.2.1, Pt.int r.2.2.2.1, Pt.int r.2.2.2.2.1, Pt.any v78] 75, rowR cd50 v78 r.2.2.2.2.2] ∧ Value.tuple #[] = v) := by
  rw [impl_factors_grow__c1.g] at H
  refine s_start Try.func73 rfl Try.ntmps73 rfl ?_
  intro a hF
  have hM := qM
  refine wp_seq ?_
  refine wp_seq ?_
  refine s_region ?_
  refine s_val hF rfl rfl rfl (e_move hF rfl) ?_; intro a hF
  refine s_val hF rfl rfl rfl (e_gtr hF rfl rfl) ?_; intro a hF
  refine s_nil ?_
  refine then_n ?_
  rcases ite_cases H with ⟨c9, H⟩ | ⟨c9, H⟩
  ·
    refine s_cond_t hF rfl (decide_eq_true c9) ?_
    refine wp_seq ?_
    refine wp_seq ?_
    rcases ite_cases H with ⟨c10, H⟩ | ⟨c10, H⟩
    ·
      refine s_region ?_
      refine s_val hF rfl rfl rfl (e_move hF rfl) ?_; intro a hF
      refine s_val hF rfl rfl rfl (e_nilc hF rfl) ?_; intro a hF
      refine s_val hF rfl rfl rfl (e_fa hF rfl Try.underlying75 rfl Try.sizeOf3 rfl rfl) ?_; intro a hF
      refine s_val hF rfl rfl rfl (e_ld (i := 0) (k := 3) hF hM rfl rfl rfl rfl Try.isAgg3 rfl) ?_; intro a hF
      refine s_val hF rfl rfl rfl (e_eql hF rfl rfl) ?_; intro a hF
      refine s_val hF rfl rfl rfl (e_move hF rfl) ?_; intro a hF
      have hF := hF.topb (decide_eq_true c10)
      refine s_val hF rfl rfl rfl (e_move hF rfl) ?_; intro a hF
      refine s_val hF rfl rfl rfl (e_nilc hF rfl) ?_; intro a hF
      refine s_val hF rfl rfl rfl (e_fa hF rfl Try.underlying75 rfl Try.sizeOf3 rfl rfl) ?_; intro a hF
      refine s_val hF rfl rfl rfl (e_ld (i := 0) (k := 4) hF hM rfl rfl rfl rfl Try.isAgg3 rfl) ?_; intro a hF
      refine s_val hF rfl rfl rfl (e_eql hF rfl rfl) ?_; intro a hF
      refine s_val hF rfl rfl rfl (e_pick_t hF rfl rfl) ?_; intro a hF
      refine s_nil ?_
      refine then_n ?_
      rcases ite_cases H with ⟨c11, H⟩ | ⟨c11, H⟩
      ·
        refine s_cond_t hF rfl (decide_eq_true c11) ?_
        obtain ⟨t12, h13, H⟩ := bind_some H
        obtain ⟨t14, h15, H⟩ := bind_some H
        obtain ⟨t16, h17, H⟩ := bind_some H
        obtain ⟨c20, H⟩ := ite_some H
        refine wp_mono (Q := fun e a w => e = Exit.normal ∧ ∃ v18 : Value, ∃ v19 : Value, Fr 180 a [] ∧ Ms X w0 w [rowR cd50 v18 [t16], boxR b1 [Pt.ar y2, Pt.ar y3, Pt.ar y4, Pt.int y5, Pt.int y6, Pt.any v19] 75, rowR cd50 v19 (y8 ++ [t16])]) ?_ ?_
        · skip
          refine s_held (fun w => Ms X w0 w []) #[false, false, false, false, false, false, false, false, false, false, false, false, false, false, false, false, false, false, false, false, false] mixed rfl rfl hM ?_; intro w hf hM; clear hf
          refine h_val 0 #[true, false, false, false, false, false, false, false, false, false, false, false, false, false, false, false, false, false, false, false, false] rfl (by kernel_rfl) hF rfl rfl rfl (fun w hS => e_move hF rfl) (hM.pick [] rfl rfl) ?_; intro a hF
          refine h_val 1 #[true, true, false, false, false, false, false, false, false, false, false, false, false, false, false, false, false, false, false, false, false] rfl (by kernel_rfl) hF rfl rfl rfl (fun w hS => e_move hF rfl) (hM.pick [] rfl rfl) ?_; intro a hF
          refine h_val 2 #[true, true, true, false, false, false, false, false, false, false, false, false, false, false, false, false, false, false, false, false, false] rfl (by kernel_rfl) hF rfl rfl rfl (fun w hS => e_nilc hF rfl) (hM.pick [] rfl rfl) ?_; intro a hF
          refine h_val 3 #[true, true, true, true, false, false, false, false, false, false, false, false, false, false, false, false, false, false, false, false, false] rfl (by kernel_rfl) hF rfl rfl rfl (fun w hS => e_fa hF rfl Try.underlying75 rfl Try.sizeOf37 rfl rfl) (hM.pick [] rfl rfl) ?_; intro a hF
          refine h_val 5 #[true, true, true, true, false, true, false, false, false, false, false, false, false, false, false, false, false, false, false, false, false] rfl (by kernel_rfl) hF rfl rfl rfl (fun w hS => e_move hF rfl) (hM.pick [] rfl rfl) ?_; intro a hF
          refine h_val 6 #[true, true, true, true, false, true, true, false, false, false, false, false, false, false, false, false, false, false, false, false, false] rfl (by kernel_rfl) hF rfl rfl rfl (fun w hS => e_nilc hF rfl) (hM.pick [] rfl rfl) ?_; intro a hF
          refine h_val 7 #[true, true, true, true, false, true, true, true, false, false, false, false, false, false, false, false, false, false, false, false, false] rfl (by kernel_rfl) hF rfl rfl rfl (fun w hS => e_fa hF rfl Try.underlying75 rfl Try.sizeOf73 rfl rfl) (hM.pick [] rfl rfl) ?_; intro a hF
          refine h_val 10 #[true, true, true, true, false, true, true, true, false, false, true, false, false, false, false, false, false, false, false, false, false] rfl (by kernel_rfl) hF rfl rfl rfl (fun w hS => e_move hF rfl) (hM.pick [] rfl rfl) ?_; intro a hF
          refine h_val 11 #[true, true, true, true, false, true, true, true, false, false, true, true, false, false, false, false, false, false, false, false, false] rfl (by kernel_rfl) hF rfl rfl rfl (fun w hS => e_nilc hF rfl) (hM.pick [] rfl rfl) ?_; intro a hF
          refine h_val 12 #[true, true, true, true, false, true, true, true, false, false, true, true, true, false, false, false, false, false, false, false, false] rfl (by kernel_rfl) hF rfl rfl rfl (fun w hS => e_fa hF rfl Try.underlying75 rfl Try.sizeOf73 rfl rfl) (hM.pick [] rfl rfl) ?_; intro a hF
          refine h_three 4 8 13 #[true, true, true, true, true, true, true, true, false, false, true, true, true, false, false, false, false, false, false, false, false] #[true, true, true, true, false, true, true, true, true, false, true, true, true, false, false, false, false, false, false, false, false] #[true, true, true, true, false, true, true, true, false, false, true, true, true, true, false, false, false, false, false, false, false] rfl rfl rfl rfl rfl rfl (by kernel_rfl) ?_ ?_ ?_
          · skip
            refine s_val hF rfl rfl rfl (e_ld (i := 0) (k := 5) hF hM rfl rfl rfl rfl Try.isAgg37 (any_cs (hM.sl 1 rfl).toF.one)) ?_; intro a hF
            refine s_nil ⟨rfl, (hM.pick [] rfl rfl), ?_⟩
            refine h_two 8 13 #[true, true, true, true, true, true, true, true, true, false, true, true, true, false, false, false, false, false, false, false, false] #[true, true, true, true, true, true, true, true, false, false, true, true, true, true, false, false, false, false, false, false, false] rfl rfl rfl rfl (by kernel_rfl) ?_ ?_
            · skip
              refine s_val hF rfl rfl rfl (e_lda (i := 0) 1 1 hF hM rfl rfl rfl rfl Try.isAgg73 Try.sizeOf73 rfl) ?_; intro a hF
              refine s_nil ⟨rfl, (hM.pick [] rfl rfl), ?_⟩
              refine h_two 9 13 #[true, true, true, true, true, true, true, true, true, true, true, true, true, false, false, false, false, false, false, false, false] #[true, true, true, true, true, true, true, true, true, false, true, true, true, true, false, false, false, false, false, false, false] rfl rfl rfl rfl (by kernel_rfl) ?_ ?_
              · skip
                refine s_call hF rfl rfl rfl Try.call81 (impl_die.calls K y3 t12 h13) ?_; intro a w v hF hf hR
                subst hR; have hM := hM.grow hf
                refine s_nil ⟨rfl, (hM.pick [] rfl rfl), ?_⟩
                refine h_one 13 #[true, true, true, true, true, true, true, true, true, true, true, true, true, true, false, false, false, false, false, false, false] rfl (by kernel_rfl) ?_
                refine s_val hF rfl rfl rfl (e_lda (i := 0) 2 1 hF hM rfl rfl rfl rfl Try.isAgg73 Try.sizeOf73 rfl) ?_; intro a hF
                refine s_nil ⟨rfl, (hM.pick [] rfl rfl), ?_⟩
                refine h_one 14 #[true, true, true, true, true, true, true, true, true, true, true, true, true, true, true, false, false, false, false, false, false] rfl (by kernel_rfl) ?_
                refine s_call hF rfl rfl rfl Try.call81 (impl_die.calls K y4 t14 h15) ?_; intro a w v hF hf hR
                subst hR; have hM := hM.grow hf
                refine s_nil ⟨rfl, (hM.pick [] rfl rfl), ?_⟩
                refine h_one 15 #[true, true, true, true, true, true, true, true, true, true, true, true, true, true, true, true, false, false, false, false, false] rfl (by kernel_rfl) ?_
                refine s_call hF rfl rfl rfl Try.call46 (impl_pairOf.calls K t12 t14 t16 h17) ?_; intro a w v hF hf hR
                subst hR; have hM := hM.grow hf
                refine s_nil ⟨rfl, (hM.pick [] rfl rfl), ?_⟩
                refine h_one 16 #[true, true, true, true, true, true, true, true, true, true, true, true, true, true, true, true, true, false, false, false, false] rfl (by kernel_rfl) ?_
                refine s_bsl (C := cd50) [t16] cdok50 hF hM rfl rfl rfl rfl Try.underlying37 rfl ?_; intro a w v18 hF hM
                refine s_nil ⟨rfl, (hM.pick [] rfl rfl), ?_⟩
                refine h_one 17 #[true, true, true, true, true, true, true, true, true, true, true, true, true, true, true, true, true, true, false, false, false] rfl (by kernel_rfl) ?_
                refine s_append (i := 2) cdok50 hF hM rfl rfl rfl rfl rfl (hM.sl 0 rfl) Try.underlying37 c20 ?_; intro a w v19 hF hM
                refine s_nil ⟨rfl, (hM.pick [] rfl rfl), ?_⟩
                refine h_val 18 #[true, true, true, true, true, true, true, true, true, true, true, true, true, true, true, true, true, true, true, false, false] rfl (by kernel_rfl) hF rfl rfl rfl (fun w hS => e_nilc hF rfl) (hM.pick [] rfl rfl) ?_; intro a hF
                refine h_val 19 #[true, true, true, true, true, true, true, true, true, true, true, true, true, true, true, true, true, true, true, true, false] rfl (by kernel_rfl) hF rfl rfl rfl (fun w hS => e_fa hF rfl Try.underlying75 rfl Try.sizeOf37 rfl rfl) (hM.pick [] rfl rfl) ?_; intro a hF
                refine h_one 20 #[true, true, true, true, true, true, true, true, true, true, true, true, true, true, true, true, true, true, true, true, true] rfl (by kernel_rfl) ?_
                refine s_st (i := 1) (k := 5) (Pt.any v19) hF hM rfl rfl rfl (any_cells (hM.sl 2 rfl).toF.one) rfl rfl rfl rfl Try.sizeOf37 rfl ?_; intro a w hF hM
                refine s_nil ⟨rfl, (hM.pick [] rfl rfl), ?_⟩
                exact h_done rfl ⟨rfl, v18, v19, hF.sub _ trivial, hM.pick [0, 1, 2] rfl rfl⟩
              · skip
                refine s_val hF rfl rfl rfl (e_lda (i := 0) 2 1 hF hM rfl rfl rfl rfl Try.isAgg73 Try.sizeOf73 rfl) ?_; intro a hF
                refine s_nil ⟨rfl, (hM.pick [] rfl rfl), ?_⟩
                refine h_one 9 #[true, true, true, true, true, true, true, true, true, true, true, true, true, true, false, false, false, false, false, false, false] rfl (by kernel_rfl) ?_
                refine s_call hF rfl rfl rfl Try.call81 (impl_die.calls K y3 t12 h13) ?_; intro a w v hF hf hR
                subst hR; have hM := hM.grow hf
                refine s_nil ⟨rfl, (hM.pick [] rfl rfl), ?_⟩
                refine h_one 14 #[true, true, true, true, true, true, true, true, true, true, true, true, true, true, true, false, false, false, false, false, false] rfl (by kernel_rfl) ?_
                refine s_call hF rfl rfl rfl Try.call81 (impl_die.calls K y4 t14 h15) ?_; intro a w v hF hf hR
                subst hR; have hM := hM.grow hf
                refine s_nil ⟨rfl, (hM.pick [] rfl rfl), ?_⟩
                refine h_one 15 #[true, true, true, true, true, true, true, true, true, true, true, true, true, true, true, true, false, false, false, false, false] rfl (by kernel_rfl) ?_
                refine s_call hF rfl rfl rfl Try.call46 (impl_pairOf.calls K t12 t14 t16 h17) ?_; intro a w v hF hf hR
                subst hR; have hM := hM.grow hf
                refine s_nil ⟨rfl, (hM.pick [] rfl rfl), ?_⟩
                refine h_one 16 #[true, true, true, true, true, true, true, true, true, true, true, true, true, true, true, true, true, false, false, false, false] rfl (by kernel_rfl) ?_
                refine s_bsl (C := cd50) [t16] cdok50 hF hM rfl rfl rfl rfl Try.underlying37 rfl ?_; intro a w v18 hF hM
                refine s_nil ⟨rfl, (hM.pick [] rfl rfl), ?_⟩
                refine h_one 17 #[true, true, true, true, true, true, true, true, true, true, true, true, true, true, true, true, true, true, false, false, false] rfl (by kernel_rfl) ?_
                refine s_append (i := 2) cdok50 hF hM rfl rfl rfl rfl rfl (hM.sl 0 rfl) Try.underlying37 c20 ?_; intro a w v19 hF hM
                refine s_nil ⟨rfl, (hM.pick [] rfl rfl), ?_⟩
                refine h_val 18 #[true, true, true, true, true, true, true, true, true, true, true, true, true, true, true, true, true, true, true, false, false] rfl (by kernel_rfl) hF rfl rfl rfl (fun w hS => e_nilc hF rfl) (hM.pick [] rfl rfl) ?_; intro a hF
                refine h_val 19 #[true, true, true, true, true, true, true, true, true, true, true, true, true, true, true, true, true, true, true, true, false] rfl (by kernel_rfl) hF rfl rfl rfl (fun w hS => e_fa hF rfl Try.underlying75 rfl Try.sizeOf37 rfl rfl) (hM.pick [] rfl rfl) ?_; intro a hF
                refine h_one 20 #[true, true, true, true, true, true, true, true, true, true, true, true, true, true, true, true, true, true, true, true, true] rfl (by kernel_rfl) ?_
                refine s_st (i := 1) (k := 5) (Pt.any v19) hF hM rfl rfl rfl (any_cells (hM.sl 2 rfl).toF.one) rfl rfl rfl rfl Try.sizeOf37 rfl ?_; intro a w hF hM
                refine s_nil ⟨rfl, (hM.pick [] rfl rfl), ?_⟩
                exact h_done rfl ⟨rfl, v18, v19, hF.sub _ trivial, hM.pick [0, 1, 2] rfl rfl⟩
            · skip
              refine s_val hF rfl rfl rfl (e_lda (i := 0) 2 1 hF hM rfl rfl rfl rfl Try.isAgg73 Try.sizeOf73 rfl) ?_; intro a hF
              refine s_nil ⟨rfl, (hM.pick [] rfl rfl), ?_⟩
              refine h_one 8 #[true, true, true, true, true, true, true, true, true, false, true, true, true, true, false, false, false, false, false, false, false] rfl (by kernel_rfl) ?_
              refine s_val hF rfl rfl rfl (e_lda (i := 0) 1 1 hF hM rfl rfl rfl rfl Try.isAgg73 Try.sizeOf73 rfl) ?_; intro a hF
              refine s_nil ⟨rfl, (hM.pick [] rfl rfl), ?_⟩
              refine h_one 9 #[true, true, true, true, true, true, true, true, true, true, true, true, true, true, false, false, false, false, false, false, false] rfl (by kernel_rfl) ?_
              refine s_call hF rfl rfl rfl Try.call81 (impl_die.calls K y3 t12 h13) ?_; intro a w v hF hf hR
              subst hR; have hM := hM.grow hf
              refine s_nil ⟨rfl, (hM.pick [] rfl rfl), ?_⟩
              refine h_one 14 #[true, true, true, true, true, true, true, true, true, true, true, true, true, true, true, false, false, false, false, false, false] rfl (by kernel_rfl) ?_
              refine s_call hF rfl rfl rfl Try.call81 (impl_die.calls K y4 t14 h15) ?_; intro a w v hF hf hR
              subst hR; have hM := hM.grow hf
              refine s_nil ⟨rfl, (hM.pick [] rfl rfl), ?_⟩
              refine h_one 15 #[true, true, true, true, true, true, true, true, true, true, true, true, true, true, true, true, false, false, false, false, false] rfl (by kernel_rfl) ?_
              refine s_call hF rfl rfl rfl Try.call46 (impl_pairOf.calls K t12 t14 t16 h17) ?_; intro a w v hF hf hR
              subst hR; have hM := hM.grow hf
              refine s_nil ⟨rfl, (hM.pick [] rfl rfl), ?_⟩
              refine h_one 16 #[true, true, true, true, true, true, true, true, true, true, true, true, true, true, true, true, true, false, false, false, false] rfl (by kernel_rfl) ?_
              refine s_bsl (C := cd50) [t16] cdok50 hF hM rfl rfl rfl rfl Try.underlying37 rfl ?_; intro a w v18 hF hM
              refine s_nil ⟨rfl, (hM.pick [] rfl rfl), ?_⟩
              refine h_one 17 #[true, true, true, true, true, true, true, true, true, true, true, true, true, true, true, true, true, true, false, false, false] rfl (by kernel_rfl) ?_
              refine s_append (i := 2) cdok50 hF hM rfl rfl rfl rfl rfl (hM.sl 0 rfl) Try.underlying37 c20 ?_; intro a w v19 hF hM
              refine s_nil ⟨rfl, (hM.pick [] rfl rfl), ?_⟩
              refine h_val 18 #[true, true, true, true, true, true, true, true, true, true, true, true, true, true, true, true, true, true, true, false, false] rfl (by kernel_rfl) hF rfl rfl rfl (fun w hS => e_nilc hF rfl) (hM.pick [] rfl rfl) ?_; intro a hF
              refine h_val 19 #[true, true, true, true, true, true, true, true, true, true, true, true, true, true, true, true, true, true, true, true, false] rfl (by kernel_rfl) hF rfl rfl rfl (fun w hS => e_fa hF rfl Try.underlying75 rfl Try.sizeOf37 rfl rfl) (hM.pick [] rfl rfl) ?_; intro a hF
              refine h_one 20 #[true, true, true, true, true, true, true, true, true, true, true, true, true, true, true, true, true, true, true, true, true] rfl (by kernel_rfl) ?_
              refine s_st (i := 1) (k := 5) (Pt.any v19) hF hM rfl rfl rfl (any_cells (hM.sl 2 rfl).toF.one) rfl rfl rfl rfl Try.sizeOf37 rfl ?_; intro a w hF hM
              refine s_nil ⟨rfl, (hM.pick [] rfl rfl), ?_⟩
              exact h_done rfl ⟨rfl, v18, v19, hF.sub _ trivial, hM.pick [0, 1, 2] rfl rfl⟩
          · skip
            refine s_val hF rfl rfl rfl (e_lda (i := 0) 1 1 hF hM rfl rfl rfl rfl Try.isAgg73 Try.sizeOf73 rfl) ?_; intro a hF
            refine s_nil ⟨rfl, (hM.pick [] rfl rfl), ?_⟩
            refine h_three 4 9 13 #[true, true, true, true, true, true, true, true, true, false, true, true, true, false, false, false, false, false, false, false, false] #[true, true, true, true, false, true, true, true, true, true, true, true, true, false, false, false, false, false, false, false, false] #[true, true, true, true, false, true, true, true, true, false, true, true, true, true, false, false, false, false, false, false, false] rfl rfl rfl rfl rfl rfl (by kernel_rfl) ?_ ?_ ?_
            · skip
              refine s_val hF rfl rfl rfl (e_ld (i := 0) (k := 5) hF hM rfl rfl rfl rfl Try.isAgg37 (any_cs (hM.sl 1 rfl).toF.one)) ?_; intro a hF
              refine s_nil ⟨rfl, (hM.pick [] rfl rfl), ?_⟩
              refine h_two 9 13 #[true, true, true, true, true, true, true, true, true, true, true, true, true, false, false, false, false, false, false, false, false] #[true, true, true, true, true, true, true, true, true, false, true, true, true, true, false, false, false, false, false, false, false] rfl rfl rfl rfl (by kernel_rfl) ?_ ?_
              · skip
                refine s_call hF rfl rfl rfl Try.call81 (impl_die.calls K y3 t12 h13) ?_; intro a w v hF hf hR
                subst hR; have hM := hM.grow hf
                refine s_nil ⟨rfl, (hM.pick [] rfl rfl), ?_⟩
                refine h_one 13 #[true, true, true, true, true, true, true, true, true, true, true, true, true, true, false, false, false, false, false, false, false] rfl (by kernel_rfl) ?_
                refine s_val hF rfl rfl rfl (e_lda (i := 0) 2 1 hF hM rfl rfl rfl rfl Try.isAgg73 Try.sizeOf73 rfl) ?_; intro a hF
                refine s_nil ⟨rfl, (hM.pick [] rfl rfl), ?_⟩
                refine h_one 14 #[true, true, true, true, true, true, true, true, true, true, true, true, true, true, true, false, false, false, false, false, false] rfl (by kernel_rfl) ?_
                refine s_call hF rfl rfl rfl Try.call81 (impl_die.calls K y4 t14 h15) ?_; intro a w v hF hf hR
                subst hR; have hM := hM.grow hf
                refine s_nil ⟨rfl, (hM.pick [] rfl rfl), ?_⟩
                refine h_one 15 #[true, true, true, true, true, true, true, true, true, true, true, true, true, true, true, true, false, false, false, false, false] rfl (by kernel_rfl) ?_
                refine s_call hF rfl rfl rfl Try.call46 (impl_pairOf.calls K t12 t14 t16 h17) ?_; intro a w v hF hf hR
                subst hR; have hM := hM.grow hf
                refine s_nil ⟨rfl, (hM.pick [] rfl rfl), ?_⟩
                refine h_one 16 #[true, true, true, true, true, true, true, true, true, true, true, true, true, true, true, true, true, false, false, false, false] rfl (by kernel_rfl) ?_
                refine s_bsl (C := cd50) [t16] cdok50 hF hM rfl rfl rfl rfl Try.underlying37 rfl ?_; intro a w v18 hF hM
                refine s_nil ⟨rfl, (hM.pick [] rfl rfl), ?_⟩
                refine h_one 17 #[true, true, true, true, true, true, true, true, true, true, true, true, true, true, true, true, true, true, false, false, false] rfl (by kernel_rfl) ?_
                refine s_append (i := 2) cdok50 hF hM rfl rfl rfl rfl rfl (hM.sl 0 rfl) Try.underlying37 c20 ?_; intro a w v19 hF hM
                refine s_nil ⟨rfl, (hM.pick [] rfl rfl), ?_⟩
                refine h_val 18 #[true, true, true, true, true, true, true, true, true, true, true, true, true, true, true, true, true, true, true, false, false] rfl (by kernel_rfl) hF rfl rfl rfl (fun w hS => e_nilc hF rfl) (hM.pick [] rfl rfl) ?_; intro a hF
                refine h_val 19 #[true, true, true, true, true, true, true, true, true, true, true, true, true, true, true, true, true, true, true, true, false] rfl (by kernel_rfl) hF rfl rfl rfl (fun w hS => e_fa hF rfl Try.underlying75 rfl Try.sizeOf37 rfl rfl) (hM.pick [] rfl rfl) ?_; intro a hF
                refine h_one 20 #[true, true, true, true, true, true, true, true, true, true, true, true, true, true, true, true, true, true, true, true, true] rfl (by kernel_rfl) ?_
                refine s_st (i := 1) (k := 5) (Pt.any v19) hF hM rfl rfl rfl (any_cells (hM.sl 2 rfl).toF.one) rfl rfl rfl rfl Try.sizeOf37 rfl ?_; intro a w hF hM
                refine s_nil ⟨rfl, (hM.pick [] rfl rfl), ?_⟩
                exact h_done rfl ⟨rfl, v18, v19, hF.sub _ trivial, hM.pick [0, 1, 2] rfl rfl⟩
              · skip
                refine s_val hF rfl rfl rfl (e_lda (i := 0) 2 1 hF hM rfl rfl rfl rfl Try.isAgg73 Try.sizeOf73 rfl) ?_; intro a hF
                refine s_nil ⟨rfl, (hM.pick [] rfl rfl), ?_⟩
                refine h_one 9 #[true, true, true, true, true, true, true, true, true, true, true, true, true, true, false, false, false, false, false, false, false] rfl (by kernel_rfl) ?_
                refine s_call hF rfl rfl rfl Try.call81 (impl_die.calls K y3 t12 h13) ?_; intro a w v hF hf hR
                subst hR; have hM := hM.grow hf
                refine s_nil ⟨rfl, (hM.pick [] rfl rfl), ?_⟩
                refine h_one 14 #[true, true, true, true, true, true, true, true, true, true, true, true, true, true, true, false, false, false, false, false, false] rfl (by kernel_rfl) ?_
                refine s_call hF rfl rfl rfl Try.call81 (impl_die.calls K y4 t14 h15) ?_; intro a w v hF hf hR
                subst hR; have hM := hM.grow hf
                refine s_nil ⟨rfl, (hM.pick [] rfl rfl), ?_⟩
                refine h_one 15 #[true, true, true, true, true, true, true, true, true, true, true, true, true, true, true, true, false, false, false, false, false] rfl (by kernel_rfl) ?_
                refine s_call hF rfl rfl rfl Try.call46 (impl_pairOf.calls K t12 t14 t16 h17) ?_; intro a w v hF hf hR
                subst hR; have hM := hM.grow hf
                refine s_nil ⟨rfl, (hM.pick [] rfl rfl), ?_⟩
                refine h_one 16 #[true, true, true, true, true, true, true, true, true, true, true, true, true, true, true, true, true, false, false, false, false] rfl (by kernel_rfl) ?_
                refine s_bsl (C := cd50) [t16] cdok50 hF hM rfl rfl rfl rfl Try.underlying37 rfl ?_; intro a w v18 hF hM
                refine s_nil ⟨rfl, (hM.pick [] rfl rfl), ?_⟩
                refine h_one 17 #[true, true, true, true, true, true, true, true, true, true, true, true, true, true, true, true, true, true, false, false, false] rfl (by kernel_rfl) ?_
                refine s_append (i := 2) cdok50 hF hM rfl rfl rfl rfl rfl (hM.sl 0 rfl) Try.underlying37 c20 ?_; intro a w v19 hF hM
                refine s_nil ⟨rfl, (hM.pick [] rfl rfl), ?_⟩
                refine h_val 18 #[true, true, true, true, true, true, true, true, true, true, true, true, true, true, true, true, true, true, true, false, false] rfl (by kernel_rfl) hF rfl rfl rfl (fun w hS => e_nilc hF rfl) (hM.pick [] rfl rfl) ?_; intro a hF
                refine h_val 19 #[true, true, true, true, true, true, true, true, true, true, true, true, true, true, true, true, true, true, true, true, false] rfl (by kernel_rfl) hF rfl rfl rfl (fun w hS => e_fa hF rfl Try.underlying75 rfl Try.sizeOf37 rfl rfl) (hM.pick [] rfl rfl) ?_; intro a hF
                refine h_one 20 #[true, true, true, true, true, true, true, true, true, true, true, true, true, true, true, true, true, true, true, true, true] rfl (by kernel_rfl) ?_
                refine s_st (i := 1) (k := 5) (Pt.any v19) hF hM rfl rfl rfl (any_cells (hM.sl 2 rfl).toF.one) rfl rfl rfl rfl Try.sizeOf37 rfl ?_; intro a w hF hM
                refine s_nil ⟨rfl, (hM.pick [] rfl rfl), ?_⟩
                exact h_done rfl ⟨rfl, v18, v19, hF.sub _ trivial, hM.pick [0, 1, 2] rfl rfl⟩
            · skip
              refine s_call hF rfl rfl rfl Try.call81 (impl_die.calls K y3 t12 h13) ?_; intro a w v hF hf hR
              subst hR; have hM := hM.grow hf
              refine s_nil ⟨rfl, (hM.pick [] rfl rfl), ?_⟩
              refine h_two 4 13 #[true, true, true, true, true, true, true, true, true, true, true, true, true, false, false, false, false, false, false, false, false] #[true, true, true, true, false, true, true, true, true, true, true, true, true, true, false, false, false, false, false, false, false] rfl rfl rfl rfl (by kernel_rfl) ?_ ?_
              · skip
                refine s_val hF rfl rfl rfl (e_ld (i := 0) (k := 5) hF hM rfl rfl rfl rfl Try.isAgg37 (any_cs (hM.sl 1 rfl).toF.one)) ?_; intro a hF
                refine s_nil ⟨rfl, (hM.pick [] rfl rfl), ?_⟩
                refine h_one 13 #[true, true, true, true, true, true, true, true, true, true, true, true, true, true, false, false, false, false, false, false, false] rfl (by kernel_rfl) ?_
                refine s_val hF rfl rfl rfl (e_lda (i := 0) 2 1 hF hM rfl rfl rfl rfl Try.isAgg73 Try.sizeOf73 rfl) ?_; intro a hF
                refine s_nil ⟨rfl, (hM.pick [] rfl rfl), ?_⟩
                refine h_one 14 #[true, true, true, true, true, true, true, true, true, true, true, true, true, true, true, false, false, false, false, false, false] rfl (by kernel_rfl) ?_
                refine s_call hF rfl rfl rfl Try.call81 (impl_die.calls K y4 t14 h15) ?_; intro a w v hF hf hR
                subst hR; have hM := hM.grow hf
                refine s_nil ⟨rfl, (hM.pick [] rfl rfl), ?_⟩
                refine h_one 15 #[true, true, true, true, true, true, true, true, true, true, true, true, true, true, true, true, false, false, false, false, false] rfl (by kernel_rfl) ?_
                refine s_call hF rfl rfl rfl Try.call46 (impl_pairOf.calls K t12 t14 t16 h17) ?_; intro a w v hF hf hR
                subst hR; have hM := hM.grow hf
                refine s_nil ⟨rfl, (hM.pick [] rfl rfl), ?_⟩
                refine h_one 16 #[true, true, true, true, true, true, true, true, true, true, true, true, true, true, true, true, true, false, false, false, false] rfl (by kernel_rfl) ?_
                refine s_bsl (C := cd50) [t16] cdok50 hF hM rfl rfl rfl rfl Try.underlying37 rfl ?_; intro a w v18 hF hM
                refine s_nil ⟨rfl, (hM.pick [] rfl rfl), ?_⟩
                refine h_one 17 #[true, true, true, true, true, true, true, true, true, true, true, true, true, true, true, true, true, true, false, false, false] rfl (by kernel_rfl) ?_
                refine s_append (i := 2) cdok50 hF hM rfl rfl rfl rfl rfl (hM.sl 0 rfl) Try.underlying37 c20 ?_; intro a w v19 hF hM
                refine s_nil ⟨rfl, (hM.pick [] rfl rfl), ?_⟩
                refine h_val 18 #[true, true, true, true, true, true, true, true, true, true, true, true, true, true, true, true, true, true, true, false, false] rfl (by kernel_rfl) hF rfl rfl rfl (fun w hS => e_nilc hF rfl) (hM.pick [] rfl rfl) ?_; intro a hF
                refine h_val 19 #[true, true, true, true, true, true, true, true, true, true, true, true, true, true, true, true, true, true, true, true, false] rfl (by kernel_rfl) hF rfl rfl rfl (fun w hS => e_fa hF rfl Try.underlying75 rfl Try.sizeOf37 rfl rfl) (hM.pick [] rfl rfl) ?_; intro a hF
                refine h_one 20 #[true, true, true, true, true, true, true, true, true, true, true, true, true, true, true, true, true, true, true, true, true] rfl (by kernel_rfl) ?_
                refine s_st (i := 1) (k := 5) (Pt.any v19) hF hM rfl rfl rfl (any_cells (hM.sl 2 rfl).toF.one) rfl rfl rfl rfl Try.sizeOf37 rfl ?_; intro a w hF hM
                refine s_nil ⟨rfl, (hM.pick [] rfl rfl), ?_⟩
                exact h_done rfl ⟨rfl, v18, v19, hF.sub _ trivial, hM.pick [0, 1, 2] rfl rfl⟩
              · skip
                refine s_val hF rfl rfl rfl (e_lda (i := 0) 2 1 hF hM rfl rfl rfl rfl Try.isAgg73 Try.sizeOf73 rfl) ?_; intro a hF
                refine s_nil ⟨rfl, (hM.pick [] rfl rfl), ?_⟩
                refine h_two 4 14 #[true, true, true, true, true, true, true, true, true, true, true, true, true, true, false, false, false, false, false, false, false] #[true, true, true, true, false, true, true, true, true, true, true, true, true, true, true, false, false, false, false, false, false] rfl rfl rfl rfl (by kernel_rfl) ?_ ?_
                · skip
                  refine s_val hF rfl rfl rfl (e_ld (i := 0) (k := 5) hF hM rfl rfl rfl rfl Try.isAgg37 (any_cs (hM.sl 1 rfl).toF.one)) ?_; intro a hF
                  refine s_nil ⟨rfl, (hM.pick [] rfl rfl), ?_⟩
                  refine h_one 14 #[true, true, true, true, true, true, true, true, true, true, true, true, true, true, true, false, false, false, false, false, false] rfl (by kernel_rfl) ?_
                  refine s_call hF rfl rfl rfl Try.call81 (impl_die.calls K y4 t14 h15) ?_; intro a w v hF hf hR
                  subst hR; have hM := hM.grow hf
                  refine s_nil ⟨rfl, (hM.pick [] rfl rfl), ?_⟩
                  refine h_one 15 #[true, true, true, true, true, true, true, true, true, true, true, true, true, true, true, true, false, false, false, false, false] rfl (by kernel_rfl) ?_
                  refine s_call hF rfl rfl rfl Try.call46 (impl_pairOf.calls K t12 t14 t16 h17) ?_; intro a w v hF hf hR
                  subst hR; have hM := hM.grow hf
                  refine s_nil ⟨rfl, (hM.pick [] rfl rfl), ?_⟩
                  refine h_one 16 #[true, true, true, true, true, true, true, true, true, true, true, true, true, true, true, true, true, false, false, false, false] rfl (by kernel_rfl) ?_
                  refine s_bsl (C := cd50) [t16] cdok50 hF hM rfl rfl rfl rfl Try.underlying37 rfl ?_; intro a w v18 hF hM
                  refine s_nil ⟨rfl, (hM.pick [] rfl rfl), ?_⟩
                  refine h_one 17 #[true, true, true, true, true, true, true, true, true, true, true, true, true, true, true, true, true, true, false, false, false] rfl (by kernel_rfl) ?_
                  refine s_append (i := 2) cdok50 hF hM rfl rfl rfl rfl rfl (hM.sl 0 rfl) Try.underlying37 c20 ?_; intro a w v19 hF hM
                  refine s_nil ⟨rfl, (hM.pick [] rfl rfl), ?_⟩
                  refine h_val 18 #[true, true, true, true, true, true, true, true, true, true, true, true, true, true, true, true, true, true, true, false, false] rfl (by kernel_rfl) hF rfl rfl rfl (fun w hS => e_nilc hF rfl) (hM.pick [] rfl rfl) ?_; intro a hF
                  refine h_val 19 #[true, true, true, true, true, true, true, true, true, true, true, true, true, true, true, true, true, true, true, true, false] rfl (by kernel_rfl) hF rfl rfl rfl (fun w hS => e_fa hF rfl Try.underlying75 rfl Try.sizeOf37 rfl rfl) (hM.pick [] rfl rfl) ?_; intro a hF
                  refine h_one 20 #[true, true, true, true, true, true, true, true, true, true, true, true, true, true, true, true, true, true, true, true, true] rfl (by kernel_rfl) ?_
                  refine s_st (i := 1) (k := 5) (Pt.any v19) hF hM rfl rfl rfl (any_cells (hM.sl 2 rfl).toF.one) rfl rfl rfl rfl Try.sizeOf37 rfl ?_; intro a w hF hM
                  refine s_nil ⟨rfl, (hM.pick [] rfl rfl), ?_⟩
                  exact h_done rfl ⟨rfl, v18, v19, hF.sub _ trivial, hM.pick [0, 1, 2] rfl rfl⟩
                · skip
                  refine s_call hF rfl rfl rfl Try.call81 (impl_die.calls K y4 t14 h15) ?_; intro a w v hF hf hR
                  subst hR; have hM := hM.grow hf
                  refine s_nil ⟨rfl, (hM.pick [] rfl rfl), ?_⟩
                  refine h_two 4 15 #[true, true, true, true, true, true, true, true, true, true, true, true, true, true, true, false, false, false, false, false, false] #[true, true, true, true, false, true, true, true, true, true, true, true, true, true, true, true, false, false, false, false, false] rfl rfl rfl rfl (by kernel_rfl) ?_ ?_
                  · skip
                    refine s_val hF rfl rfl rfl (e_ld (i := 0) (k := 5) hF hM rfl rfl rfl rfl Try.isAgg37 (any_cs (hM.sl 1 rfl).toF.one)) ?_; intro a hF
                    refine s_nil ⟨rfl, (hM.pick [] rfl rfl), ?_⟩
                    refine h_one 15 #[true, true, true, true, true, true, true, true, true, true, true, true, true, true, true, true, false, false, false, false, false] rfl (by kernel_rfl) ?_
                    refine s_call hF rfl rfl rfl Try.call46 (impl_pairOf.calls K t12 t14 t16 h17) ?_; intro a w v hF hf hR
                    subst hR; have hM := hM.grow hf
                    refine s_nil ⟨rfl, (hM.pick [] rfl rfl), ?_⟩
                    refine h_one 16 #[true, true, true, true, true, true, true, true, true, true, true, true, true, true, true, true, true, false, false, false, false] rfl (by kernel_rfl) ?_
                    refine s_bsl (C := cd50) [t16] cdok50 hF hM rfl rfl rfl rfl Try.underlying37 rfl ?_; intro a w v18 hF hM
                    refine s_nil ⟨rfl, (hM.pick [] rfl rfl), ?_⟩
                    refine h_one 17 #[true, true, true, true, true, true, true, true, true, true, true, true, true, true, true, true, true, true, false, false, false] rfl (by kernel_rfl) ?_
                    refine s_append (i := 2) cdok50 hF hM rfl rfl rfl rfl rfl (hM.sl 0 rfl) Try.underlying37 c20 ?_; intro a w v19 hF hM
                    refine s_nil ⟨rfl, (hM.pick [] rfl rfl), ?_⟩
                    refine h_val 18 #[true, true, true, true, true, true, true, true, true, true, true, true, true, true, true, true, true, true, true, false, false] rfl (by kernel_rfl) hF rfl rfl rfl (fun w hS => e_nilc hF rfl) (hM.pick [] rfl rfl) ?_; intro a hF
                    refine h_val 19 #[true, true, true, true, true, true, true, true, true, true, true, true, true, true, true, true, true, true, true, true, false] rfl (by kernel_rfl) hF rfl rfl rfl (fun w hS => e_fa hF rfl Try.underlying75 rfl Try.sizeOf37 rfl rfl) (hM.pick [] rfl rfl) ?_; intro a hF
                    refine h_one 20 #[true, true, true, true, true, true, true, true, true, true, true, true, true, true, true, true, true, true, true, true, true] rfl (by kernel_rfl) ?_
                    refine s_st (i := 1) (k := 5) (Pt.any v19) hF hM rfl rfl rfl (any_cells (hM.sl 2 rfl).toF.one) rfl rfl rfl rfl Try.sizeOf37 rfl ?_; intro a w hF hM
                    refine s_nil ⟨rfl, (hM.pick [] rfl rfl), ?_⟩
                    exact h_done rfl ⟨rfl, v18, v19, hF.sub _ trivial, hM.pick [0, 1, 2] rfl rfl⟩
                  · skip
                    refine s_call hF rfl rfl rfl Try.call46 (impl_pairOf.calls K t12 t14 t16 h17) ?_; intro a w v hF hf hR
                    subst hR; have hM := hM.grow hf
                    refine s_nil ⟨rfl, (hM.pick [] rfl rfl), ?_⟩
                    refine h_two 4 16 #[true, true, true, true, true, true, true, true, true, true, true, true, true, true, true, true, false, false, false, false, false] #[true, true, true, true, false, true, true, true, true, true, true, true, true, true, true, true, true, false, false, false, false] rfl rfl rfl rfl (by kernel_rfl) ?_ ?_
                    · skip
                      refine s_val hF rfl rfl rfl (e_ld (i := 0) (k := 5) hF hM rfl rfl rfl rfl Try.isAgg37 (any_cs (hM.sl 1 rfl).toF.one)) ?_; intro a hF
                      refine s_nil ⟨rfl, (hM.pick [] rfl rfl), ?_⟩
                      refine h_one 16 #[true, true, true, true, true, true, true, true, true, true, true, true, true, true, true, true, true, false, false, false, false] rfl (by kernel_rfl) ?_
                      refine s_bsl (C := cd50) [t16] cdok50 hF hM rfl rfl rfl rfl Try.underlying37 rfl ?_; intro a w v18 hF hM
                      refine s_nil ⟨rfl, (hM.pick [] rfl rfl), ?_⟩
                      refine h_one 17 #[true, true, true, true, true, true, true, true, true, true, true, true, true, true, true, true, true, true, false, false, false] rfl (by kernel_rfl) ?_
                      refine s_append (i := 2) cdok50 hF hM rfl rfl rfl rfl rfl (hM.sl 0 rfl) Try.underlying37 c20 ?_; intro a w v19 hF hM
                      refine s_nil ⟨rfl, (hM.pick [] rfl rfl), ?_⟩
                      refine h_val 18 #[true, true, true, true, true, true, true, true, true, true, true, true, true, true, true, true, true, true, true, false, false] rfl (by kernel_rfl) hF rfl rfl rfl (fun w hS => e_nilc hF rfl) (hM.pick [] rfl rfl) ?_; intro a hF
                      refine h_val 19 #[true, true, true, true, true, true, true, true, true, true, true, true, true, true, true, true, true, true, true, true, false] rfl (by kernel_rfl) hF rfl rfl rfl (fun w hS => e_fa hF rfl Try.underlying75 rfl Try.sizeOf37 rfl rfl) (hM.pick [] rfl rfl) ?_; intro a hF
                      refine h_one 20 #[true, true, true, true, true, true, true, true, true, true, true, true, true, true, true, true, true, true, true, true, true] rfl (by kernel_rfl) ?_
                      refine s_st (i := 1) (k := 5) (Pt.any v19) hF hM rfl rfl rfl (any_cells (hM.sl 2 rfl).toF.one) rfl rfl rfl rfl Try.sizeOf37 rfl ?_; intro a w hF hM
                      refine s_nil ⟨rfl, (hM.pick [] rfl rfl), ?_⟩
                      exact h_done rfl ⟨rfl, v18, v19, hF.sub _ trivial, hM.pick [0, 1, 2] rfl rfl⟩
                    · skip
                      refine s_bsl (C := cd50) [t16] cdok50 hF hM rfl rfl rfl rfl Try.underlying37 rfl ?_; intro a w v18 hF hM
                      refine s_nil ⟨rfl, (hM.pick [] rfl rfl), ?_⟩
                      refine h_one 4 #[true, true, true, true, true, true, true, true, true, true, true, true, true, true, true, true, true, false, false, false, false] rfl (by kernel_rfl) ?_
                      refine s_val hF rfl rfl rfl (e_ld (i := 1) (k := 5) hF hM rfl rfl rfl rfl Try.isAgg37 (any_cs (hM.sl 2 rfl).toF.one)) ?_; intro a hF
                      refine s_nil ⟨rfl, (hM.pick [] rfl rfl), ?_⟩
                      refine h_one 17 #[true, true, true, true, true, true, true, true, true, true, true, true, true, true, true, true, true, true, false, false, false] rfl (by kernel_rfl) ?_
                      refine s_append (i := 2) cdok50 hF hM rfl rfl rfl rfl rfl (hM.sl 0 rfl) Try.underlying37 c20 ?_; intro a w v19 hF hM
                      refine s_nil ⟨rfl, (hM.pick [] rfl rfl), ?_⟩
                      refine h_val 18 #[true, true, true, true, true, true, true, true, true, true, true, true, true, true, true, true, true, true, true, false, false] rfl (by kernel_rfl) hF rfl rfl rfl (fun w hS => e_nilc hF rfl) (hM.pick [] rfl rfl) ?_; intro a hF
                      refine h_val 19 #[true, true, true, true, true, true, true, true, true, true, true, true, true, true, true, true, true, true, true, true, false] rfl (by kernel_rfl) hF rfl rfl rfl (fun w hS => e_fa hF rfl Try.underlying75 rfl Try.sizeOf37 rfl rfl) (hM.pick [] rfl rfl) ?_; intro a hF
                      refine h_one 20 #[true, true, true, true, true, true, true, true, true, true, true, true, true, true, true, true, true, true, true, true, true] rfl (by kernel_rfl) ?_
                      refine s_st (i := 1) (k := 5) (Pt.any v19) hF hM rfl rfl rfl (any_cells (hM.sl 2 rfl).toF.one) rfl rfl rfl rfl Try.sizeOf37 rfl ?_; intro a w hF hM
                      refine s_nil ⟨rfl, (hM.pick [] rfl rfl), ?_⟩
                      exact h_done rfl ⟨rfl, v18, v19, hF.sub _ trivial, hM.pick [0, 1, 2] rfl rfl⟩
            · skip
              refine s_val hF rfl rfl rfl (e_lda (i := 0) 2 1 hF hM rfl rfl rfl rfl Try.isAgg73 Try.sizeOf73 rfl) ?_; intro a hF
              refine s_nil ⟨rfl, (hM.pick [] rfl rfl), ?_⟩
              refine h_two 4 9 #[true, true, true, true, true, true, true, true, true, false, true, true, true, true, false, false, false, false, false, false, false] #[true, true, true, true, false, true, true, true, true, true, true, true, true, true, false, false, false, false, false, false, false] rfl rfl rfl rfl (by kernel_rfl) ?_ ?_
              · skip
                refine s_val hF rfl rfl rfl (e_ld (i := 0) (k := 5) hF hM rfl rfl rfl rfl Try.isAgg37 (any_cs (hM.sl 1 rfl).toF.one)) ?_; intro a hF
                refine s_nil ⟨rfl, (hM.pick [] rfl rfl), ?_⟩
                refine h_one 9 #[true, true, true, true, true, true, true, true, true, true, true, true, true, true, false, false, false, false, false, false, false] rfl (by kernel_rfl) ?_
                refine s_call hF rfl rfl rfl Try.call81 (impl_die.calls K y3 t12 h13) ?_; intro a w v hF hf hR
                subst hR; have hM := hM.grow hf
                refine s_nil ⟨rfl, (hM.pick [] rfl rfl), ?_⟩
                refine h_one 14 #[true, true, true, true, true, true, true, true, true, true, true, true, true, true, true, false, false, false, false, false, false] rfl (by kernel_rfl) ?_
                refine s_call hF rfl rfl rfl Try.call81 (impl_die.calls K y4 t14 h15) ?_; intro a w v hF hf hR
                subst hR; have hM := hM.grow hf
                refine s_nil ⟨rfl, (hM.pick [] rfl rfl), ?_⟩
                refine h_one 15 #[true, true, true, true, true, true, true, true, true, true, true, true, true, true, true, true, false, false, false, false, false] rfl (by kernel_rfl) ?_
                refine s_call hF rfl rfl rfl Try.call46 (impl_pairOf.calls K t12 t14 t16 h17) ?_; intro a w v hF hf hR
                subst hR; have hM := hM.grow hf
                refine s_nil ⟨rfl, (hM.pick [] rfl rfl), ?_⟩
                refine h_one 16 #[true, true, true, true, true, true, true, true, true, true, true, true, true, true, true, true, true, false, false, false, false] rfl (by kernel_rfl) ?_
                refine s_bsl (C := cd50) [t16] cdok50 hF hM rfl rfl rfl rfl Try.underlying37 rfl ?_; intro a w v18 hF hM
                refine s_nil ⟨rfl, (hM.pick [] rfl rfl), ?_⟩
                refine h_one 17 #[true, true, true, true, true, true, true, true, true, true, true, true, true, true, true, true, true, true, false, false, false] rfl (by kernel_rfl) ?_
                refine s_append (i := 2) cdok50 hF hM rfl rfl rfl rfl rfl (hM.sl 0 rfl) Try.underlying37 c20 ?_; intro a w v19 hF hM
                refine s_nil ⟨rfl, (hM.pick [] rfl rfl), ?_⟩
                refine h_val 18 #[true, true, true, true, true, true, true, true, true, true, true, true, true, true, true, true, true, true, true, false, false] rfl (by kernel_rfl) hF rfl rfl rfl (fun w hS => e_nilc hF rfl) (hM.pick [] rfl rfl) ?_; intro a hF
                refine h_val 19 #[true, true, true, true, true, true, true, true, true, true, true, true, true, true, true, true, true, true, true, true, false] rfl (by kernel_rfl) hF rfl rfl rfl (fun w hS => e_fa hF rfl Try.underlying75 rfl Try.sizeOf37 rfl rfl) (hM.pick [] rfl rfl) ?_; intro a hF
                refine h_one 20 #[true, true, true, true, true, true, true, true, true, true, true, true, true, true, true, true, true, true, true, true, true] rfl (by kernel_rfl) ?_
                refine s_st (i := 1) (k := 5) (Pt.any v19) hF hM rfl rfl rfl (any_cells (hM.sl 2 rfl).toF.one) rfl rfl rfl rfl Try.sizeOf37 rfl ?_; intro a w hF hM
                refine s_nil ⟨rfl, (hM.pick [] rfl rfl), ?_⟩
                exact h_done rfl ⟨rfl, v18, v19, hF.sub _ trivial, hM.pick [0, 1, 2] rfl rfl⟩
              · skip
                refine s_call hF rfl rfl rfl Try.call81 (impl_die.calls K y3 t12 h13) ?_; intro a w v hF hf hR
                subst hR; have hM := hM.grow hf
                refine s_nil ⟨rfl, (hM.pick [] rfl rfl), ?_⟩
                refine h_two 4 14 #[true, true, true, true, true, true, true, true, true, true, true, true, true, true, false, false, false, false, false, false, false] #[true, true, true, true, false, true, true, true, true, true, true, true, true, true, true, false, false, false, false, false, false] rfl rfl rfl rfl (by kernel_rfl) ?_ ?_
                · skip
                  refine s_val hF rfl rfl rfl (e_ld (i := 0) (k := 5) hF hM rfl rfl rfl rfl Try.isAgg37 (any_cs (hM.sl 1 rfl).toF.one)) ?_; intro a hF
                  refine s_nil ⟨rfl, (hM.pick [] rfl rfl), ?_⟩
                  refine h_one 14 #[true, true, true, true, true, true, true, true, true, true, true, true, true, true, true, false, false, false, false, false, false] rfl (by kernel_rfl) ?_
                  refine s_call hF rfl rfl rfl Try.call81 (impl_die.calls K y4 t14 h15) ?_; intro a w v hF hf hR
                  subst hR; have hM := hM.grow hf
                  refine s_nil ⟨rfl, (hM.pick [] rfl rfl), ?_⟩
                  refine h_one 15 #[true, true, true, true, true, true, true, true, true, true, true, true, true, true, true, true, false, false, false, false, false] rfl (by kernel_rfl) ?_
                  refine s_call hF rfl rfl rfl Try.call46 (impl_pairOf.calls K t12 t14 t16 h17) ?_; intro a w v hF hf hR
                  subst hR; have hM := hM.grow hf
                  refine s_nil ⟨rfl, (hM.pick [] rfl rfl), ?_⟩
                  refine h_one 16 #[true, true, true, true, true, true, true, true, true, true, true, true, true, true, true, true, true, false, false, false, false] rfl (by kernel_rfl) ?_
                  refine s_bsl (C := cd50) [t16] cdok50 hF hM rfl rfl rfl rfl Try.underlying37 rfl ?_; intro a w v18 hF hM
                  refine s_nil ⟨rfl, (hM.pick [] rfl rfl), ?_⟩
                  refine h_one 17 #[true, true, true, true, true, true, true, true, true, true, true, true, true, true, true, true, true, true, false, false, false] rfl (by kernel_rfl) ?_
                  refine s_append (i := 2) cdok50 hF hM rfl rfl rfl rfl rfl (hM.sl 0 rfl) Try.underlying37 c20 ?_; intro a w v19 hF hM
                  refine s_nil ⟨rfl, (hM.pick [] rfl rfl), ?_⟩
                  refine h_val 18 #[true, true, true, true, true, true, true, true, true, true, true, true, true, true, true, true, true, true, true, false, false] rfl (by kernel_rfl) hF rfl rfl rfl (fun w hS => e_nilc hF rfl) (hM.pick [] rfl rfl) ?_; intro a hF
                  refine h_val 19 #[true, true, true, true, true, true, true, true, true, true, true, true, true, true, true, true, true, true, true, true, false] rfl (by kernel_rfl) hF rfl rfl rfl (fun w hS => e_fa hF rfl Try.underlying75 rfl Try.sizeOf37 rfl rfl) (hM.pick [] rfl rfl) ?_; intro a hF
                  refine h_one 20 #[true, true, true, true, true, true, true, true, true, true, true, true, true, true, true, true, true, true, true, true, true] rfl (by kernel_rfl) ?_
                  refine s_st (i := 1) (k := 5) (Pt.any v19) hF hM rfl rfl rfl (any_cells (hM.sl 2 rfl).toF.one) rfl rfl rfl rfl Try.sizeOf37 rfl ?_; intro a w hF hM
                  refine s_nil ⟨rfl, (hM.pick [] rfl rfl), ?_⟩
                  exact h_done rfl ⟨rfl, v18, v19, hF.sub _ trivial, hM.pick [0, 1, 2] rfl rfl⟩
                · skip
                  refine s_call hF rfl rfl rfl Try.call81 (impl_die.calls K y4 t14 h15) ?_; intro a w v hF hf hR
                  subst hR; have hM := hM.grow hf
                  refine s_nil ⟨rfl, (hM.pick [] rfl rfl), ?_⟩
                  refine h_two 4 15 #[true, true, true, true, true, true, true, true, true, true, true, true, true, true, true, false, false, false, false, false, false] #[true, true, true, true, false, true, true, true, true, true, true, true, true, true, true, true, false, false, false, false, false] rfl rfl rfl rfl (by kernel_rfl) ?_ ?_
                  · skip
                    refine s_val hF rfl rfl rfl (e_ld (i := 0) (k := 5) hF hM rfl rfl rfl rfl Try.isAgg37 (any_cs (hM.sl 1 rfl).toF.one)) ?_; intro a hF
                    refine s_nil ⟨rfl, (hM.pick [] rfl rfl), ?_⟩
                    refine h_one 15 #[true, true, true, true, true, true, true, true, true, true, true, true, true, true, true, true, false, false, false, false, false] rfl (by kernel_rfl) ?_
                    refine s_call hF rfl rfl rfl Try.call46 (impl_pairOf.calls K t12 t14 t16 h17) ?_; intro a w v hF hf hR
                    subst hR; have hM := hM.grow hf
                    refine s_nil ⟨rfl, (hM.pick [] rfl rfl), ?_⟩
                    refine h_one 16 #[true, true, true, true, true, true, true, true, true, true, true, true, true, true, true, true, true, false, false, false, false] rfl (by kernel_rfl) ?_
                    refine s_bsl (C := cd50) [t16] cdok50 hF hM rfl rfl rfl rfl Try.underlying37 rfl ?_; intro a w v18 hF hM
                    refine s_nil ⟨rfl, (hM.pick [] rfl rfl), ?_⟩
                    refine h_one 17 #[true, true, true, true, true, true, true, true, true, true, true, true, true, true, true, true, true, true, false, false, false] rfl (by kernel_rfl) ?_
                    refine s_append (i := 2) cdok50 hF hM rfl rfl rfl rfl rfl (hM.sl 0 rfl) Try.underlying37 c20 ?_; intro a w v19 hF hM
                    refine s_nil ⟨rfl, (hM.pick [] rfl rfl), ?_⟩
                    refine h_val 18 #[true, true, true, true, true, true, true, true, true, true, true, true, true, true, true, true, true, true, true, false, false] rfl (by kernel_rfl) hF rfl rfl rfl (fun w hS => e_nilc hF rfl) (hM.pick [] rfl rfl) ?_; intro a hF
                    refine h_val 19 #[true, true, true, true, true, true, true, true, true, true, true, true, true, true, true, true, true, true, true, true, false] rfl (by kernel_rfl) hF rfl rfl rfl (fun w hS => e_fa hF rfl Try.underlying75 rfl Try.sizeOf37 rfl rfl) (hM.pick [] rfl rfl) ?_; intro a hF
                    refine h_one 20 #[true, true, true, true, true, true, true, true, true, true, true, true, true, true, true, true, true, true, true, true, true] rfl (by kernel_rfl) ?_
                    refine s_st (i := 1) (k := 5) (Pt.any v19) hF hM rfl rfl rfl (any_cells (hM.sl 2 rfl).toF.one) rfl rfl rfl rfl Try.sizeOf37 rfl ?_; intro a w hF hM
                    refine s_nil ⟨rfl, (hM.pick [] rfl rfl), ?_⟩
                    exact h_done rfl ⟨rfl, v18, v19, hF.sub _ trivial, hM.pick [0, 1, 2] rfl rfl⟩
                  · skip
                    refine s_call hF rfl rfl rfl Try.call46 (impl_pairOf.calls K t12 t14 t16 h17) ?_; intro a w v hF hf hR
                    subst hR; have hM := hM.grow hf
                    refine s_nil ⟨rfl, (hM.pick [] rfl rfl), ?_⟩
                    refine h_two 4 16 #[true, true, true, true, true, true, true, true, true, true, true, true, true, true, true, true, false, false, false, false, false] #[true, true, true, true, false, true, true, true, true, true, true, true, true, true, true, true, true, false, false, false, false] rfl rfl rfl rfl (by kernel_rfl) ?_ ?_
                    · skip
                      refine s_val hF rfl rfl rfl (e_ld (i := 0) (k := 5) hF hM rfl rfl rfl rfl Try.isAgg37 (any_cs (hM.sl 1 rfl).toF.one)) ?_; intro a hF
                      refine s_nil ⟨rfl, (hM.pick [] rfl rfl), ?_⟩
                      refine h_one 16 #[true, true, true, true, true, true, true, true, true, true, true, true, true, true, true, true, true, false, false, false, false] rfl (by kernel_rfl) ?_
                      refine s_bsl (C := cd50) [t16] cdok50 hF hM rfl rfl rfl rfl Try.underlying37 rfl ?_; intro a w v18 hF hM
                      refine s_nil ⟨rfl, (hM.pick [] rfl rfl), ?_⟩
                      refine h_one 17 #[true, true, true, true, true, true, true, true, true, true, true, true, true, true, true, true, true, true, false, false, false] rfl (by kernel_rfl) ?_
                      refine s_append (i := 2) cdok50 hF hM rfl rfl rfl rfl rfl (hM.sl 0 rfl) Try.underlying37 c20 ?_; intro a w v19 hF hM
                      refine s_nil ⟨rfl, (hM.pick [] rfl rfl), ?_⟩
                      refine h_val 18 #[true, true, true, true, true, true, true, true, true, true, true, true, true, true, true, true, true, true, true, false, false] rfl (by kernel_rfl) hF rfl rfl rfl (fun w hS => e_nilc hF rfl) (hM.pick [] rfl rfl) ?_; intro a hF
                      refine h_val 19 #[true, true, true, true, true, true, true, true, true, true, true, true, true, true, true, true, true, true, true, true, false] rfl (by kernel_rfl) hF rfl rfl rfl (fun w hS => e_fa hF rfl Try.underlying75 rfl Try.sizeOf37 rfl rfl) (hM.pick [] rfl rfl) ?_; intro a hF
                      refine h_one 20 #[true, true, true, true, true, true, true, true, true, true, true, true, true, true, true, true, true, true, true, true, true] rfl (by kernel_rfl) ?_
                      refine s_st (i := 1) (k := 5) (Pt.any v19) hF hM rfl rfl rfl (any_cells (hM.sl 2 rfl).toF.one) rfl rfl rfl rfl Try.sizeOf37 rfl ?_; intro a w hF hM
                      refine s_nil ⟨rfl, (hM.pick [] rfl rfl), ?_⟩
                      exact h_done rfl ⟨rfl, v18, v19, hF.sub _ trivial, hM.pick [0, 1, 2] rfl rfl⟩
                    · skip
                      refine s_bsl (C := cd50) [t16] cdok50 hF hM rfl rfl rfl rfl Try.underlying37 rfl ?_; intro a w v18 hF hM
                      refine s_nil ⟨rfl, (hM.pick [] rfl rfl), ?_⟩
                      refine h_one 4 #[true, true, true, true, true, true, true, true, true, true, true, true, true, true, true, true, true, false, false, false, false] rfl (by kernel_rfl) ?_
                      refine s_val hF rfl rfl rfl (e_ld (i := 1) (k := 5) hF hM rfl rfl rfl rfl Try.isAgg37 (any_cs (hM.sl 2 rfl).toF.one)) ?_; intro a hF
                      refine s_nil ⟨rfl, (hM.pick [] rfl rfl), ?_⟩
                      refine h_one 17 #[true, true, true, true, true, true, true, true, true, true, true, true, true, true, true, true, true, true, false, false, false] rfl (by kernel_rfl) ?_
                      refine s_append (i := 2) cdok50 hF hM rfl rfl rfl rfl rfl (hM.sl 0 rfl) Try.underlying37 c20 ?_; intro a w v19 hF hM
                      refine s_nil ⟨rfl, (hM.pick [] rfl rfl), ?_⟩
                      refine h_val 18 #[true, true, true, true, true, true, true, true, true, true, true, true, true, true, true, true, true, true, true, false, false] rfl (by kernel_rfl) hF rfl rfl rfl (fun w hS => e_nilc hF rfl) (hM.pick [] rfl rfl) ?_; intro a hF
                      refine h_val 19 #[true, true, true, true, true, true, true, true, true, true, true, true, true, true, true, true, true, true, true, true, false] rfl (by kernel_rfl) hF rfl rfl rfl (fun w hS => e_fa hF rfl Try.underlying75 rfl Try.sizeOf37 rfl rfl) (hM.pick [] rfl rfl) ?_; intro a hF
                      refine h_one 20 #[true, true, true, true, true, true, true, true, true, true, true, true, true, true, true, true, true, true, true, true, true] rfl (by kernel_rfl) ?_
                      refine s_st (i := 1) (k := 5) (Pt.any v19) hF hM rfl rfl rfl (any_cells (hM.sl 2 rfl).toF.one) rfl rfl rfl rfl Try.sizeOf37 rfl ?_; intro a w hF hM
                      refine s_nil ⟨rfl, (hM.pick [] rfl rfl), ?_⟩
                      exact h_done rfl ⟨rfl, v18, v19, hF.sub _ trivial, hM.pick [0, 1, 2] rfl rfl⟩
          · skip
            refine s_val hF rfl rfl rfl (e_lda (i := 0) 2 1 hF hM rfl rfl rfl rfl Try.isAgg73 Try.sizeOf73 rfl) ?_; intro a hF
            refine s_nil ⟨rfl, (hM.pick [] rfl rfl), ?_⟩
            refine h_two 4 8 #[true, true, true, true, true, true, true, true, false, false, true, true, true, true, false, false, false, false, false, false, false] #[true, true, true, true, false, true, true, true, true, false, true, true, true, true, false, false, false, false, false, false, false] rfl rfl rfl rfl (by kernel_rfl) ?_ ?_
            · skip
              refine s_val hF rfl rfl rfl (e_ld (i := 0) (k := 5) hF hM rfl rfl rfl rfl Try.isAgg37 (any_cs (hM.sl 1 rfl).toF.one)) ?_; intro a hF
              refine s_nil ⟨rfl, (hM.pick [] rfl rfl), ?_⟩
              refine h_one 8 #[true, true, true, true, true, true, true, true, true, false, true, true, true, true, false, false, false, false, false, false, false] rfl (by kernel_rfl) ?_
              refine s_val hF rfl rfl rfl (e_lda (i := 0) 1 1 hF hM rfl rfl rfl rfl Try.isAgg73 Try.sizeOf73 rfl) ?_; intro a hF
              refine s_nil ⟨rfl, (hM.pick [] rfl rfl), ?_⟩
              refine h_one 9 #[true, true, true, true, true, true, true, true, true, true, true, true, true, true, false, false, false, false, false, false, false] rfl (by kernel_rfl) ?_
              refine s_call hF rfl rfl rfl Try.call81 (impl_die.calls K y3 t12 h13) ?_; intro a w v hF hf hR
              subst hR; have hM := hM.grow hf
              refine s_nil ⟨rfl, (hM.pick [] rfl rfl), ?_⟩
              refine h_one 14 #[true, true, true, true, true, true, true, true, true, true, true, true, true, true, true, false, false, false, false, false, false] rfl (by kernel_rfl) ?_
              refine s_call hF rfl rfl rfl Try.call81 (impl_die.calls K y4 t14 h15) ?_; intro a w v hF hf hR
              subst hR; have hM := hM.grow hf
              refine s_nil ⟨rfl, (hM.pick [] rfl rfl), ?_⟩
              refine h_one 15 #[true, true, true, true, true, true, true, true, true, true, true, true, true, true, true, true, false, false, false, false, false] rfl (by kernel_rfl) ?_
              refine s_call hF rfl rfl rfl Try.call46 (impl_pairOf.calls K t12 t14 t16 h17) ?_; intro a w v hF hf hR
              subst hR; have hM := hM.grow hf
              refine s_nil ⟨rfl, (hM.pick [] rfl rfl), ?_⟩
              refine h_one 16 #[true, true, true, true, true, true, true, true, true, true, true, true, true, true, true, true, true, false, false, false, false] rfl (by kernel_rfl) ?_
              refine s_bsl (C := cd50) [t16] cdok50 hF hM rfl rfl rfl rfl Try.underlying37 rfl ?_; intro a w v18 hF hM
              refine s_nil ⟨rfl, (hM.pick [] rfl rfl), ?_⟩
              refine h_one 17 #[true, true, true, true, true, true, true, true, true, true, true, true, true, true, true, true, true, true, false, false, false] rfl (by kernel_rfl) ?_
              refine s_append (i := 2) cdok50 hF hM rfl rfl rfl rfl rfl (hM.sl 0 rfl) Try.underlying37 c20 ?_; intro a w v19 hF hM
              refine s_nil ⟨rfl, (hM.pick [] rfl rfl), ?_⟩
              refine h_val 18 #[true, true, true, true, true, true, true, true, true, true, true, true, true, true, true, true, true, true, true, false, false] rfl (by kernel_rfl) hF rfl rfl rfl (fun w hS => e_nilc hF rfl) (hM.pick [] rfl rfl) ?_; intro a hF
              refine h_val 19 #[true, true, true, true, true, true, true, true, true, true, true, true, true, true, true, true, true, true, true, true, false] rfl (by kernel_rfl) hF rfl rfl rfl (fun w hS => e_fa hF rfl Try.underlying75 rfl Try.sizeOf37 rfl rfl) (hM.pick [] rfl rfl) ?_; intro a hF
              refine h_one 20 #[true, true, true, true, true, true, true, true, true, true, true, true, true, true, true, true, true, true, true, true, true] rfl (by kernel_rfl) ?_
              refine s_st (i := 1) (k := 5) (Pt.any v19) hF hM rfl rfl rfl (any_cells (hM.sl 2 rfl).toF.one) rfl rfl rfl rfl Try.sizeOf37 rfl ?_; intro a w hF hM
              refine s_nil ⟨rfl, (hM.pick [] rfl rfl), ?_⟩
              exact h_done rfl ⟨rfl, v18, v19, hF.sub _ trivial, hM.pick [0, 1, 2] rfl rfl⟩
            · skip
              refine s_val hF rfl rfl rfl (e_lda (i := 0) 1 1 hF hM rfl rfl rfl rfl Try.isAgg73 Try.sizeOf73 rfl) ?_; intro a hF
              refine s_nil ⟨rfl, (hM.pick [] rfl rfl), ?_⟩
              refine h_two 4 9 #[true, true, true, true, true, true, true, true, true, false, true, true, true, true, false, false, false, false, false, false, false] #[true, true, true, true, false, true, true, true, true, true, true, true, true, true, false, false, false, false, false, false, false] rfl rfl rfl rfl (by kernel_rfl) ?_ ?_
              · skip
                refine s_val hF rfl rfl rfl (e_ld (i := 0) (k := 5) hF hM rfl rfl rfl rfl Try.isAgg37 (any_cs (hM.sl 1 rfl).toF.one)) ?_; intro a hF
                refine s_nil ⟨rfl, (hM.pick [] rfl rfl), ?_⟩
                refine h_one 9 #[true, true, true, true, true, true, true, true, true, true, true, true, true, true, false, false, false, false, false, false, false] rfl (by kernel_rfl) ?_
                refine s_call hF rfl rfl rfl Try.call81 (impl_die.calls K y3 t12 h13) ?_; intro a w v hF hf hR
                subst hR; have hM := hM.grow hf
                refine s_nil ⟨rfl, (hM.pick [] rfl rfl), ?_⟩
                refine h_one 14 #[true, true, true, true, true, true, true, true, true, true, true, true, true, true, true, false, false, false, false, false, false] rfl (by kernel_rfl) ?_
                refine s_call hF rfl rfl rfl Try.call81 (impl_die.calls K y4 t14 h15) ?_; intro a w v hF hf hR
                subst hR; have hM := hM.grow hf
                refine s_nil ⟨rfl, (hM.pick [] rfl rfl), ?_⟩
                refine h_one 15 #[true, true, true, true, true, true, true, true, true, true, true, true, true, true, true, true, false, false, false, false, false] rfl (by kernel_rfl) ?_
                refine s_call hF rfl rfl rfl Try.call46 (impl_pairOf.calls K t12 t14 t16 h17) ?_; intro a w v hF hf hR
                subst hR; have hM := hM.grow hf
                refine s_nil ⟨rfl, (hM.pick [] rfl rfl), ?_⟩
                refine h_one 16 #[true, true, true, true, true, true, true, true, true, true, true, true, true, true, true, true, true, false, false, false, false] rfl (by kernel_rfl) ?_
                refine s_bsl (C := cd50) [t16] cdok50 hF hM rfl rfl rfl rfl Try.underlying37 rfl ?_; intro a w v18 hF hM
                refine s_nil ⟨rfl, (hM.pick [] rfl rfl), ?_⟩
                refine h_one 17 #[true, true, true, true, true, true, true, true, true, true, true, true, true, true, true, true, true, true, false, false, false] rfl (by kernel_rfl) ?_
                refine s_append (i := 2) cdok50 hF hM rfl rfl rfl rfl rfl (hM.sl 0 rfl) Try.underlying37 c20 ?_; intro a w v19 hF hM
                refine s_nil ⟨rfl, (hM.pick [] rfl rfl), ?_⟩
                refine h_val 18 #[true, true, true, true, true, true, true, true, true, true, true, true, true, true, true, true, true, true, true, false, false] rfl (by kernel_rfl) hF rfl rfl rfl (fun w hS => e_nilc hF rfl) (hM.pick [] rfl rfl) ?_; intro a hF
                refine h_val 19 #[true, true, true, true, true, true, true, true, true, true, true, true, true, true, true, true, true, true, true, true, false] rfl (by kernel_rfl) hF rfl rfl rfl (fun w hS => e_fa hF rfl Try.underlying75 rfl Try.sizeOf37 rfl rfl) (hM.pick [] rfl rfl) ?_; intro a hF
                refine h_one 20 #[true, true, true, true, true, true, true, true, true, true, true, true, true, true, true, true, true, true, true, true, true] rfl (by kernel_rfl) ?_
                refine s_st (i := 1) (k := 5) (Pt.any v19) hF hM rfl rfl rfl (any_cells (hM.sl 2 rfl).toF.one) rfl rfl rfl rfl Try.sizeOf37 rfl ?_; intro a w hF hM
                refine s_nil ⟨rfl, (hM.pick [] rfl rfl), ?_⟩
                exact h_done rfl ⟨rfl, v18, v19, hF.sub _ trivial, hM.pick [0, 1, 2] rfl rfl⟩
              · skip
                refine s_call hF rfl rfl rfl Try.call81 (impl_die.calls K y3 t12 h13) ?_; intro a w v hF hf hR
                subst hR; have hM := hM.grow hf
                refine s_nil ⟨rfl, (hM.pick [] rfl rfl), ?_⟩
                refine h_two 4 14 #[true, true, true, true, true, true, true, true, true, true, true, true, true, true, false, false, false, false, false, false, false] #[true, true, true, true, false, true, true, true, true, true, true, true, true, true, true, false, false, false, false, false, false] rfl rfl rfl rfl (by kernel_rfl) ?_ ?_
                · skip
                  refine s_val hF rfl rfl rfl (e_ld (i := 0) (k := 5) hF hM rfl rfl rfl rfl Try.isAgg37 (any_cs (hM.sl 1 rfl).toF.one)) ?_; intro a hF
                  refine s_nil ⟨rfl, (hM.pick [] rfl rfl), ?_⟩
                  refine h_one 14 #[true, true, true, true, true, true, true, true, true, true, true, true, true, true, true, false, false, false, false, false, false] rfl (by kernel_rfl) ?_
                  refine s_call hF rfl rfl rfl Try.call81 (impl_die.calls K y4 t14 h15) ?_; intro a w v hF hf hR
                  subst hR; have hM := hM.grow hf
                  refine s_nil ⟨rfl, (hM.pick [] rfl rfl), ?_⟩
                  refine h_one 15 #[true, true, true, true, true, true, true, true, true, true, true, true, true, true, true, true, false, false, false, false, false] rfl (by kernel_rfl) ?_
                  refine s_call hF rfl rfl rfl Try.call46 (impl_pairOf.calls K t12 t14 t16 h17) ?_; intro a w v hF hf hR
                  subst hR; have hM := hM.grow hf
                  refine s_nil ⟨rfl, (hM.pick [] rfl rfl), ?_⟩
                  refine h_one 16 #[true, true, true, true, true, true, true, true, true, true, true, true, true, true, true, true, true, false, false, false, false] rfl (by kernel_rfl) ?_
                  refine s_bsl (C := cd50) [t16] cdok50 hF hM rfl rfl rfl rfl Try.underlying37 rfl ?_; intro a w v18 hF hM
                  refine s_nil ⟨rfl, (hM.pick [] rfl rfl), ?_⟩
                  refine h_one 17 #[true, true, true, true, true, true, true, true, true, true, true, true, true, true, true, true, true, true, false, false, false] rfl (by kernel_rfl) ?_
                  refine s_append (i := 2) cdok50 hF hM rfl rfl rfl rfl rfl (hM.sl 0 rfl) Try.underlying37 c20 ?_; intro a w v19 hF hM
                  refine s_nil ⟨rfl, (hM.pick [] rfl rfl), ?_⟩
                  refine h_val 18 #[true, true, true, true, true, true, true, true, true, true, true, true, true, true, true, true, true, true, true, false, false] rfl (by kernel_rfl) hF rfl rfl rfl (fun w hS => e_nilc hF rfl) (hM.pick [] rfl rfl) ?_; intro a hF
                  refine h_val 19 #[true, true, true, true, true, true, true, true, true, true, true, true, true, true, true, true, true, true, true, true, false] rfl (by kernel_rfl) hF rfl rfl rfl (fun w hS => e_fa hF rfl Try.underlying75 rfl Try.sizeOf37 rfl rfl) (hM.pick [] rfl rfl) ?_; intro a hF
                  refine h_one 20 #[true, true, true, true, true, true, true, true, true, true, true, true, true, true, true, true, true, true, true, true, true] rfl (by kernel_rfl) ?_
                  refine s_st (i := 1) (k := 5) (Pt.any v19) hF hM rfl rfl rfl (any_cells (hM.sl 2 rfl).toF.one) rfl rfl rfl rfl Try.sizeOf37 rfl ?_; intro a w hF hM
                  refine s_nil ⟨rfl, (hM.pick [] rfl rfl), ?_⟩
                  exact h_done rfl ⟨rfl, v18, v19, hF.sub _ trivial, hM.pick [0, 1, 2] rfl rfl⟩
                · skip
                  refine s_call hF rfl rfl rfl Try.call81 (impl_die.calls K y4 t14 h15) ?_; intro a w v hF hf hR
                  subst hR; have hM := hM.grow hf
                  refine s_nil ⟨rfl, (hM.pick [] rfl rfl), ?_⟩
                  refine h_two 4 15 #[true, true, true, true, true, true, true, true, true, true, true, true, true, true, true, false, false, false, false, false, false] #[true, true, true, true, false, true, true, true, true, true, true, true, true, true, true, true, false, false, false, false, false] rfl rfl rfl rfl (by kernel_rfl) ?_ ?_
                  · skip
                    refine s_val hF rfl rfl rfl (e_ld (i := 0) (k := 5) hF hM rfl rfl rfl rfl Try.isAgg37 (any_cs (hM.sl 1 rfl).toF.one)) ?_; intro a hF
                    refine s_nil ⟨rfl, (hM.pick [] rfl rfl), ?_⟩
                    refine h_one 15 #[true, true, true, true, true, true, true, true, true, true, true, true, true, true, true, true, false, false, false, false, false] rfl (by kernel_rfl) ?_
                    refine s_call hF rfl rfl rfl Try.call46 (impl_pairOf.calls K t12 t14 t16 h17) ?_; intro a w v hF hf hR
                    subst hR; have hM := hM.grow hf
                    refine s_nil ⟨rfl, (hM.pick [] rfl rfl), ?_⟩
                    refine h_one 16 #[true, true, true, true, true, true, true, true, true, true, true, true, true, true, true, true, true, false, false, false, false] rfl (by kernel_rfl) ?_
                    refine s_bsl (C := cd50) [t16] cdok50 hF hM rfl rfl rfl rfl Try.underlying37 rfl ?_; intro a w v18 hF hM
                    refine s_nil ⟨rfl, (hM.pick [] rfl rfl), ?_⟩
                    refine h_one 17 #[true, true, true, true, true, true, true, true, true, true, true, true, true, true, true, true, true, true, false, false, false] rfl (by kernel_rfl) ?_
                    refine s_append (i := 2) cdok50 hF hM rfl rfl rfl rfl rfl (hM.sl 0 rfl) Try.underlying37 c20 ?_; intro a w v19 hF hM
                    refine s_nil ⟨rfl, (hM.pick [] rfl rfl), ?_⟩
                    refine h_val 18 #[true, true, true, true, true, true, true, true, true, true, true, true, true, true, true, true, true, true, true, false, false] rfl (by kernel_rfl) hF rfl rfl rfl (fun w hS => e_nilc hF rfl) (hM.pick [] rfl rfl) ?_; intro a hF
                    refine h_val 19 #[true, true, true, true, true, true, true, true, true, true, true, true, true, true, true, true, true, true, true, true, false] rfl (by kernel_rfl) hF rfl rfl rfl (fun w hS => e_fa hF rfl Try.underlying75 rfl Try.sizeOf37 rfl rfl) (hM.pick [] rfl rfl) ?_; intro a hF
                    refine h_one 20 #[true, true, true, true, true, true, true, true, true, true, true, true, true, true, true, true, true, true, true, true, true] rfl (by kernel_rfl) ?_
                    refine s_st (i := 1) (k := 5) (Pt.any v19) hF hM rfl rfl rfl (any_cells (hM.sl 2 rfl).toF.one) rfl rfl rfl rfl Try.sizeOf37 rfl ?_; intro a w hF hM
                    refine s_nil ⟨rfl, (hM.pick [] rfl rfl), ?_⟩
                    exact h_done rfl ⟨rfl, v18, v19, hF.sub _ trivial, hM.pick [0, 1, 2] rfl rfl⟩
                  · skip
                    refine s_call hF rfl rfl rfl Try.call46 (impl_pairOf.calls K t12 t14 t16 h17) ?_; intro a w v hF hf hR
                    subst hR; have hM := hM.grow hf
                    refine s_nil ⟨rfl, (hM.pick [] rfl rfl), ?_⟩
                    refine h_two 4 16 #[true, true, true, true, true, true, true, true, true, true, true, true, true, true, true, true, false, false, false, false, false] #[true, true, true, true, false, true, true, true, true, true, true, true, true, true, true, true, true, false, false, false, false] rfl rfl rfl rfl (by kernel_rfl) ?_ ?_
                    · skip
                      refine s_val hF rfl rfl rfl (e_ld (i := 0) (k := 5) hF hM rfl rfl rfl rfl Try.isAgg37 (any_cs (hM.sl 1 rfl).toF.one)) ?_; intro a hF
                      refine s_nil ⟨rfl, (hM.pick [] rfl rfl), ?_⟩
                      refine h_one 16 #[true, true, true, true, true, true, true, true, true, true, true, true, true, true, true, true, true, false, false, false, false] rfl (by kernel_rfl) ?_
                      refine s_bsl (C := cd50) [t16] cdok50 hF hM rfl rfl rfl rfl Try.underlying37 rfl ?_; intro a w v18 hF hM
                      refine s_nil ⟨rfl, (hM.pick [] rfl rfl), ?_⟩
                      refine h_one 17 #[true, true, true, true, true, true, true, true, true, true, true, true, true, true, true, true, true, true, false, false, false] rfl (by kernel_rfl) ?_
                      refine s_append (i := 2) cdok50 hF hM rfl rfl rfl rfl rfl (hM.sl 0 rfl) Try.underlying37 c20 ?_; intro a w v19 hF hM
                      refine s_nil ⟨rfl, (hM.pick [] rfl rfl), ?_⟩
                      refine h_val 18 #[true, true, true, true, true, true, true, true, true, true, true, true, true, true, true, true, true, true, true, false, false] rfl (by kernel_rfl) hF rfl rfl rfl (fun w hS => e_nilc hF rfl) (hM.pick [] rfl rfl) ?_; intro a hF
                      refine h_val 19 #[true, true, true, true, true, true, true, true, true, true, true, true, true, true, true, true, true, true, true, true, false] rfl (by kernel_rfl) hF rfl rfl rfl (fun w hS => e_fa hF rfl Try.underlying75 rfl Try.sizeOf37 rfl rfl) (hM.pick [] rfl rfl) ?_; intro a hF
                      refine h_one 20 #[true, true, true, true, true, true, true, true, true, true, true, true, true, true, true, true, true, true, true, true, true] rfl (by kernel_rfl) ?_
                      refine s_st (i := 1) (k := 5) (Pt.any v19) hF hM rfl rfl rfl (any_cells (hM.sl 2 rfl).toF.one) rfl rfl rfl rfl Try.sizeOf37 rfl ?_; intro a w hF hM
                      refine s_nil ⟨rfl, (hM.pick [] rfl rfl), ?_⟩
                      exact h_done rfl ⟨rfl, v18, v19, hF.sub _ trivial, hM.pick [0, 1, 2] rfl rfl⟩
                    · skip
                      refine s_bsl (C := cd50) [t16] cdok50 hF hM rfl rfl rfl rfl Try.underlying37 rfl ?_; intro a w v18 hF hM
                      refine s_nil ⟨rfl, (hM.pick [] rfl rfl), ?_⟩
                      refine h_one 4 #[true, true, true, true, true, true, true, true, true, true, true, true, true, true, true, true, true, false, false, false, false] rfl (by kernel_rfl) ?_
                      refine s_val hF rfl rfl rfl (e_ld (i := 1) (k := 5) hF hM rfl rfl rfl rfl Try.isAgg37 (any_cs (hM.sl 2 rfl).toF.one)) ?_; intro a hF
                      refine s_nil ⟨rfl, (hM.pick [] rfl rfl), ?_⟩
                      refine h_one 17 #[true, true, true, true, true, true, true, true, true, true, true, true, true, true, true, true, true, true, false, false, false] rfl (by kernel_rfl) ?_
                      refine s_append (i := 2) cdok50 hF hM rfl rfl rfl rfl rfl (hM.sl 0 rfl) Try.underlying37 c20 ?_; intro a w v19 hF hM
                      refine s_nil ⟨rfl, (hM.pick [] rfl rfl), ?_⟩
                      refine h_val 18 #[true, true, true, true, true, true, true, true, true, true, true, true, true, true, true, true, true, true, true, false, false] rfl (by kernel_rfl) hF rfl rfl rfl (fun w hS => e_nilc hF rfl) (hM.pick [] rfl rfl) ?_; intro a hF
                      refine h_val 19 #[true, true, true, true, true, true, true, true, true, true, true, true, true, true, true, true, true, true, true, true, false] rfl (by kernel_rfl) hF rfl rfl rfl (fun w hS => e_fa hF rfl Try.underlying75 rfl Try.sizeOf37 rfl rfl) (hM.pick [] rfl rfl) ?_; intro a hF
                      refine h_one 20 #[true, true, true, true, true, true, true, true, true, true, true, true, true, true, true, true, true, true, true, true, true] rfl (by kernel_rfl) ?_
                      refine s_st (i := 1) (k := 5) (Pt.any v19) hF hM rfl rfl rfl (any_cells (hM.sl 2 rfl).toF.one) rfl rfl rfl rfl Try.sizeOf37 rfl ?_; intro a w hF hM
                      refine s_nil ⟨rfl, (hM.pick [] rfl rfl), ?_⟩
                      exact h_done rfl ⟨rfl, v18, v19, hF.sub _ trivial, hM.pick [0, 1, 2] rfl rfl⟩
        rintro e a w ⟨rfl, v18, v19, hF, hM⟩
        refine then_n ?_
        refine wp_ret ?_
        refine then_r ?_
        obtain rfl := some_some H
        refine s_ret [] hF Try.results73 trivial ?_
        exact ⟨_, rfl, v19, hM.pick [1, 2] rfl rfl, rfl⟩
      ·
        refine s_cond_f hF rfl (decide_eq_false c11) ?_
        refine wp_skip ?_
        refine then_n ?_
        refine wp_ret ?_
        refine then_r ?_
        obtain rfl := some_some H
        refine s_ret [] hF Try.results73 trivial ?_
        exact ⟨_, rfl, v7, hM.pick [0, 1] rfl rfl, rfl⟩
    ·
      refine s_region ?_
      refine s_val hF rfl rfl rfl (e_move hF rfl) ?_; intro a hF
      refine s_val hF rfl rfl rfl (e_nilc hF rfl) ?_; intro a hF
      refine s_val hF rfl rfl rfl (e_fa hF rfl Try.underlying75 rfl Try.sizeOf3 rfl rfl) ?_; intro a hF
      refine s_val hF rfl rfl rfl (e_ld (i := 0) (k := 3) hF hM rfl rfl rfl rfl Try.isAgg3 rfl) ?_; intro a hF
      refine s_val hF rfl rfl rfl (e_eql hF rfl rfl) ?_; intro a hF
      refine s_val hF rfl rfl rfl (e_move hF rfl) ?_; intro a hF
      have hF := hF.topb (decide_eq_false c10)
      refine s_skip hF rfl rfl rfl ?_; intro a hF
      refine s_skip hF rfl rfl rfl ?_; intro a hF
      refine s_skip hF rfl rfl rfl ?_; intro a hF
      refine s_skip hF rfl rfl rfl ?_; intro a hF
      refine s_skip hF rfl rfl rfl ?_; intro a hF
      refine s_val hF rfl rfl rfl (e_pick_f hF rfl rfl) ?_; intro a hF
      refine s_nil ?_
      refine then_n ?_
      refine s_cond_f hF rfl rfl ?_
      refine wp_skip ?_
      refine then_n ?_
      refine wp_ret ?_
      refine then_r ?_
      obtain rfl := some_some H
      refine s_ret [] hF Try.results73 trivial ?_
      exact ⟨_, rfl, v7, hM.pick [0, 1] rfl rfl, rfl⟩
  ·
    refine s_cond_f hF rfl (decide_eq_false c9) ?_
    refine wp_skip ?_
    refine then_n ?_
    refine wp_seq ?_
    obtain ⟨c21, H⟩ := ite_some H
    obtain ⟨t22, h23, H⟩ := bind_some H
    refine s_held (fun w => Ms X w0 w [boxR b1 [Pt.ar y2, Pt.ar y3, Pt.ar y4, Pt.int y5, Pt.int y6, Pt.any v7] 75, rowR cd50 v7 y8]) #[false, false, false, false, false, false, false, false, false, false, false] mixed rfl rfl hM ?_; intro w hf hM; clear hf
    refine h_val 0 #[true, false, false, false, false, false, false, false, false, false, false] rfl (by kernel_rfl) hF rfl rfl rfl (fun w hS => e_move hF rfl) (hM.pick [0, 1] rfl rfl) ?_; intro a hF
    refine h_val 1 #[true, true, false, false, false, false, false, false, false, false, false] rfl (by kernel_rfl) hF rfl rfl rfl (fun w hS => e_move hF rfl) (hM.pick [0, 1] rfl rfl) ?_; intro a hF
    refine h_val 2 #[true, true, true, false, false, false, false, false, false, false, false] rfl (by kernel_rfl) hF rfl rfl rfl (fun w hS => e_nilc hF rfl) (hM.pick [0, 1] rfl rfl) ?_; intro a hF
    refine h_val 3 #[true, true, true, true, false, false, false, false, false, false, false] rfl (by kernel_rfl) hF rfl rfl rfl (fun w hS => e_fa hF rfl Try.underlying75 rfl Try.sizeOf43 rfl rfl) (hM.pick [0, 1] rfl rfl) ?_; intro a hF
    refine h_val 4 #[true, true, true, true, true, false, false, false, false, false, false] rfl (by kernel_rfl) hF rfl rfl rfl (fun w hS => e_ia hF rfl rfl Try.underlying43 Try.sizeOf3 c21.1 c21.2) (hM.pick [0, 1] rfl rfl) ?_; intro a hF
    refine h_val 5 #[true, true, true, true, true, true, false, false, false, false, false] rfl (by kernel_rfl) hF rfl rfl rfl (fun w hS => e_ldi (i := 0) (k := 0) hF hS rfl rfl rfl rfl rfl Try.isAgg3 c21.1 c21.2) (hM.pick [0, 1] rfl rfl) ?_; intro a hF
    refine h_val 6 #[true, true, true, true, true, true, true, false, false, false, false] rfl (by kernel_rfl) hF rfl rfl rfl (fun w hS => e_move hF rfl) (hM.pick [0, 1] rfl rfl) ?_; intro a hF
    refine h_val 7 #[true, true, true, true, true, true, true, true, false, false, false] rfl (by kernel_rfl) hF rfl rfl rfl (fun w hS => e_move hF rfl) (hM.pick [0, 1] rfl rfl) ?_; intro a hF
    refine h_one 8 #[true, true, true, true, true, true, true, true, true, false, false] rfl (by kernel_rfl) ?_
    refine s_call hF rfl rfl rfl Try.call82 (impl_factors_known__c.calls K v7 y8 (hM.sl 1 rfl) b1 y2 y3 y4 y5 y6 (hM.get 0 rfl) a1 t22 h23) ?_; intro a w v hF hf hR
    subst hR; have hM := hM.grow hf
    refine s_nil ⟨rfl, (hM.pick [0, 1] rfl rfl), ?_⟩
    refine h_val 9 #[true, true, true, true, true, true, true, true, true, true, false] rfl (by kernel_rfl) hF rfl rfl rfl (fun w hS => e_sub hF rfl rfl) (hM.pick [0, 1] rfl rfl) ?_; intro a hF
    refine h_val 10 #[true, true, true, true, true, true, true, true, true, true, true] rfl (by kernel_rfl) hF rfl rfl rfl (fun w hS => e_assign hF rfl) (hM.pick [0, 1] rfl rfl) ?_; intro a hF
    refine h_done rfl ?_
    refine then_n ?_
    refine wp_seq ?_
    refine wp_seq ?_
    refine s_region ?_
    refine s_val hF rfl rfl rfl (e_move hF rfl) ?_; intro a hF
    refine s_val hF rfl rfl rfl (e_gtr hF rfl rfl) ?_; intro a hF
    refine s_nil ?_
    refine then_n ?_
    rcases ite_cases H with ⟨c24, H⟩ | ⟨c24, H⟩
    ·
      refine s_cond_t hF rfl (decide_eq_true c24) ?_
      refine wp_seq ?_
      refine wp_seq ?_
      refine s_region ?_
      refine s_val hF rfl rfl rfl (e_move hF rfl) ?_; intro a hF
      refine s_val hF rfl rfl rfl (e_eql hF rfl rfl) ?_; intro a hF
      refine s_nil ?_
      refine then_n ?_
      rcases ite_cases H with ⟨c25, H⟩ | ⟨c25, H⟩
      ·
        refine s_cond_t hF rfl (decide_eq_true c25) ?_
        obtain ⟨t26, h27, H⟩ := bind_some H
        refine s_region ?_
        refine s_val hF rfl rfl rfl (e_move hF rfl) ?_; intro a hF
        refine s_val hF rfl rfl rfl (e_move hF rfl) ?_; intro a hF
        refine s_val hF rfl rfl rfl (e_add hF rfl rfl) ?_; intro a hF
        refine s_callx hF rfl rfl rfl Try.call73 (hrec b1 y2 y3 y4 y5 y6 v7 y8 (wrap64 (a1 + 1)) (hM.lend [0, 1] rfl rfl) t26 h27) ?_; intro a w v hF hR
        obtain ⟨v28, hR, rfl⟩ := hR; have hM := hM.back [0, 1] [] (by decide) rfl rfl hR
        refine s_nil ?_
        refine then_n ?_
        refine wp_ret ?_
        refine then_r ?_
        obtain rfl := some_some H
        refine s_ret [] hF Try.results73 trivial ?_
        exact ⟨_, rfl, v28, hM.pick [0, 1] rfl rfl, rfl⟩
      ·
        refine s_cond_f hF rfl (decide_eq_false c25) ?_
        refine wp_skip ?_
        refine then_n ?_
        refine wp_ret ?_
        refine then_r ?_
        obtain rfl := some_some H
        refine s_ret [] hF Try.results73 trivial ?_
        exact ⟨_, rfl, v7, hM.pick [0, 1] rfl rfl, rfl⟩
    ·
      refine s_cond_f hF rfl (decide_eq_false c24) ?_
      refine wp_skip ?_
      refine then_n ?_
      refine wp_seq ?_
      refine s_region ?_
      refine s_val hF rfl rfl rfl (e_assign hF rfl) ?_; intro a hF
      refine s_nil ?_
      refine then_n ?_
      refine wp_block ?_
      obtain ⟨o76, h77, H⟩ := bind_some H
      refine wp_mono (Q := fun e a w => (e = Exit.exit 0 ∧ ∃ v58 : Value, ∃ x54 : (Ar 31), ∃ x55 : (Ar 31), ∃ x56 : Int, ∃ x57 : Int, ∃ x59 : (List ((Ar 6) × (Ar 6))), (x54, x55, x56, x57, x59) = o76 ∧ Fr 180 a [] ∧ Ms X w0 w [boxR b1 [Pt.ar y2, Pt.ar x54, Pt.ar x55, Pt.int x56, Pt.int x57, Pt.any v58] 75, rowR cd50 v58 x59])) ?_ ?_
      · refine s_loop (fun kq a w => ∃ v65 : Value, ∃ x60 : Int, ∃ x61 : (Ar 31), ∃ x62 : (Ar 31), ∃ x63 : Int, ∃ x64 : Int, ∃ x66 : (List ((Ar 6) × (Ar 6))), impl_factors_grow__c1.l0 K y2 a1 rec t22 kq x60 x61 x62 x63 x64 x66 = some o76 ∧ Fr 180 a [(0, pt b1 0), (1, Value.int .i64 a1), (4, Value.int .i64 (wrap64 ((y2.get a1) - t22))), (5, Value.int .i64 x60)] ∧ Ms X w0 w [boxR b1 [Pt.ar y2, Pt.ar x61, Pt.ar x62, Pt.int x63, Pt.int x64, Pt.any v65] 75, rowR cd50 v65 x66]) K ⟨v7, 0, y3, y4, y5, y6, y8, h77, hF.sub _ ⟨rfl, rfl, rfl, rfl, trivial⟩, hM.pick [0, 1] rfl rfl⟩ ?_ ?_
        · rintro a w ⟨_, _, _, _, _, _, _, H, _⟩; exact none_some H
        · rintro k a w ⟨v65, x60, x61, x62, x63, x64, x66, H, hF, hM⟩; rw [impl_factors_grow__c1.l0] at H
          refine wp_seq ?_
          refine wp_seq ?_
          rcases ite_cases H with ⟨c67, H⟩ | ⟨c67, H⟩
          ·
            refine s_region ?_
            refine s_val hF rfl rfl rfl (e_move hF rfl) ?_; intro a hF
            refine s_val hF rfl rfl rfl (e_move hF rfl) ?_; intro a hF
            refine s_val hF rfl rfl rfl (e_nilc hF rfl) ?_; intro a hF
            refine s_val hF rfl rfl rfl (e_fa hF rfl Try.underlying75 rfl Try.sizeOf3 rfl rfl) ?_; intro a hF
            refine s_val hF rfl rfl rfl (e_ld (i := 0) (k := 3) hF hM rfl rfl rfl rfl Try.isAgg3 rfl) ?_; intro a hF
            refine s_val hF rfl rfl rfl (e_leq hF rfl rfl) ?_; intro a hF
            refine s_val hF rfl rfl rfl (e_move hF rfl) ?_; intro a hF
            have hF := hF.topb (decide_eq_true c67)
            refine s_val hF rfl rfl rfl (e_move hF rfl) ?_; intro a hF
            refine s_val hF rfl rfl rfl (e_move hF rfl) ?_; intro a hF
            refine s_val hF rfl rfl rfl (e_nilc hF rfl) ?_; intro a hF
            refine s_val hF rfl rfl rfl (e_fa hF rfl Try.underlying75 rfl Try.sizeOf73 rfl rfl) ?_; intro a hF
            refine s_val hF rfl rfl rfl (e_ia hF rfl rfl Try.underlying73 Try.sizeOf3 (by decide) (by decide)) ?_; intro a hF
            refine s_val hF rfl rfl rfl (e_ldi (i := 0) (k := 2) hF hM rfl rfl rfl rfl rfl Try.isAgg3 (by decide) (by decide)) ?_; intro a hF
            refine s_val hF rfl rfl rfl (e_mul hF rfl rfl) ?_; intro a hF
            refine s_val hF rfl rfl rfl (e_move hF rfl) ?_; intro a hF
            refine s_val hF rfl rfl rfl (e_leq hF rfl rfl) ?_; intro a hF
            refine s_val hF rfl rfl rfl (e_pick_t hF rfl rfl) ?_; intro a hF
            refine s_nil ?_
            refine then_n ?_
            rcases ite_cases H with ⟨c68, H⟩ | ⟨c68, H⟩
            ·
              refine s_cond_t hF rfl (decide_eq_true c68) ?_
              refine wp_skip ?_
              refine then_n ?_
              refine wp_seq ?_
              refine wp_block ?_
              refine wp_seq ?_
              obtain ⟨c69, H⟩ := ite_some H
              refine s_held (fun w => Ms X w0 w [boxR b1 [Pt.ar y2, Pt.ar x61, Pt.ar x62, Pt.int x63, Pt.int x64, Pt.any v65] 75, rowR cd50 v65 x66]) #[false, false, false, false, false, false, false, false, false, false, false, false, false, false, false, false] mixed rfl rfl hM ?_; intro w hf hM; clear hf
              refine h_val 0 #[true, false, false, false, false, false, false, false, false, false, false, false, false, false, false, false] rfl (by kernel_rfl) hF rfl rfl rfl (fun w hS => e_move hF rfl) (hM.pick [0, 1] rfl rfl) ?_; intro a hF
              refine h_val 1 #[true, true, false, false, false, false, false, false, false, false, false, false, false, false, false, false] rfl (by kernel_rfl) hF rfl rfl rfl (fun w hS => e_move hF rfl) (hM.pick [0, 1] rfl rfl) ?_; intro a hF
              refine h_val 2 #[true, true, true, false, false, false, false, false, false, false, false, false, false, false, false, false] rfl (by kernel_rfl) hF rfl rfl rfl (fun w hS => e_move hF rfl) (hM.pick [0, 1] rfl rfl) ?_; intro a hF
              refine h_val 3 #[true, true, true, true, false, false, false, false, false, false, false, false, false, false, false, false] rfl (by kernel_rfl) hF rfl rfl rfl (fun w hS => e_nilc hF rfl) (hM.pick [0, 1] rfl rfl) ?_; intro a hF
              refine h_val 4 #[true, true, true, true, true, false, false, false, false, false, false, false, false, false, false, false] rfl (by kernel_rfl) hF rfl rfl rfl (fun w hS => e_fa hF rfl Try.underlying75 rfl Try.sizeOf73 rfl rfl) (hM.pick [0, 1] rfl rfl) ?_; intro a hF
              refine h_val 5 #[true, true, true, true, true, true, false, false, false, false, false, false, false, false, false, false] rfl (by kernel_rfl) hF rfl rfl rfl (fun w hS => e_ia hF rfl rfl Try.underlying73 Try.sizeOf3 (by decide) (by decide)) (hM.pick [0, 1] rfl rfl) ?_; intro a hF
              refine h_val 6 #[true, true, true, true, true, true, true, false, false, false, false, false, false, false, false, false] rfl (by kernel_rfl) hF rfl rfl rfl (fun w hS => e_ldi (i := 0) (k := 2) hF hS rfl rfl rfl rfl rfl Try.isAgg3 (by decide) (by decide)) (hM.pick [0, 1] rfl rfl) ?_; intro a hF
              refine h_val 7 #[true, true, true, true, true, true, true, true, false, false, false, false, false, false, false, false] rfl (by kernel_rfl) hF rfl rfl rfl (fun w hS => e_mul hF rfl rfl) (hM.pick [0, 1] rfl rfl) ?_; intro a hF
              refine h_val 8 #[true, true, true, true, true, true, true, true, true, false, false, false, false, false, false, false] rfl (by kernel_rfl) hF rfl rfl rfl (fun w hS => e_sub hF rfl rfl) (hM.pick [0, 1] rfl rfl) ?_; intro a hF
              refine h_val 9 #[true, true, true, true, true, true, true, true, true, true, false, false, false, false, false, false] rfl (by kernel_rfl) hF rfl rfl rfl (fun w hS => e_move hF rfl) (hM.pick [0, 1] rfl rfl) ?_; intro a hF
              refine h_val 10 #[true, true, true, true, true, true, true, true, true, true, true, false, false, false, false, false] rfl (by kernel_rfl) hF rfl rfl rfl (fun w hS => e_nilc hF rfl) (hM.pick [0, 1] rfl rfl) ?_; intro a hF
              refine h_val 11 #[true, true, true, true, true, true, true, true, true, true, true, true, false, false, false, false] rfl (by kernel_rfl) hF rfl rfl rfl (fun w hS => e_fa hF rfl Try.underlying75 rfl Try.sizeOf73 rfl rfl) (hM.pick [0, 1] rfl rfl) ?_; intro a hF
              refine h_val 12 #[true, true, true, true, true, true, true, true, true, true, true, true, true, false, false, false] rfl (by kernel_rfl) hF rfl rfl rfl (fun w hS => e_ia hF rfl rfl Try.underlying73 Try.sizeOf3 (by decide) (by decide)) (hM.pick [0, 1] rfl rfl) ?_; intro a hF
              refine h_val 13 #[true, true, true, true, true, true, true, true, true, true, true, true, true, true, false, false] rfl (by kernel_rfl) hF rfl rfl rfl (fun w hS => e_ldi (i := 0) (k := 1) hF hS rfl rfl rfl rfl rfl Try.isAgg3 (by decide) (by decide)) (hM.pick [0, 1] rfl rfl) ?_; intro a hF
              refine h_val 14 #[true, true, true, true, true, true, true, true, true, true, true, true, true, true, true, false] rfl (by kernel_rfl) hF rfl rfl rfl (fun w hS => e_quo hF rfl rfl c69) (hM.pick [0, 1] rfl rfl) ?_; intro a hF
              refine h_val 15 #[true, true, true, true, true, true, true, true, true, true, true, true, true, true, true, true] rfl (by kernel_rfl) hF rfl rfl rfl (fun w hS => e_assign hF rfl) (hM.pick [0, 1] rfl rfl) ?_; intro a hF
              refine h_done rfl ?_
              refine then_n ?_
              refine wp_seq ?_
              refine wp_seq ?_
              rcases ite_cases H with ⟨c70, H⟩ | ⟨c70, H⟩
              ·
                refine s_held (fun w => Ms X w0 w [boxR b1 [Pt.ar y2, Pt.ar x61, Pt.ar x62, Pt.int x63, Pt.int x64, Pt.any v65] 75, rowR cd50 v65 x66]) #[false, false, false, false, false, false, false, false, false, false, false, false, false, false, false, false, false, false, false, false, false, false, false, false, false] mixed rfl rfl hM ?_; intro w hf hM; clear hf
                refine h_val 0 #[true, false, false, false, false, false, false, false, false, false, false, false, false, false, false, false, false, false, false, false, false, false, false, false, false] rfl (by kernel_rfl) hF rfl rfl rfl (fun w hS => e_move hF rfl) (hM.pick [0, 1] rfl rfl) ?_; intro a hF
                refine h_val 1 #[true, true, false, false, false, false, false, false, false, false, false, false, false, false, false, false, false, false, false, false, false, false, false, false, false] rfl (by kernel_rfl) hF rfl rfl rfl (fun w hS => e_move hF rfl) (hM.pick [0, 1] rfl rfl) ?_; intro a hF
                refine h_val 2 #[true, true, true, false, false, false, false, false, false, false, false, false, false, false, false, false, false, false, false, false, false, false, false, false, false] rfl (by kernel_rfl) hF rfl rfl rfl (fun w hS => e_nilc hF rfl) (hM.pick [0, 1] rfl rfl) ?_; intro a hF
                refine h_val 3 #[true, true, true, true, false, false, false, false, false, false, false, false, false, false, false, false, false, false, false, false, false, false, false, false, false] rfl (by kernel_rfl) hF rfl rfl rfl (fun w hS => e_fa hF rfl Try.underlying75 rfl Try.sizeOf73 rfl rfl) (hM.pick [0, 1] rfl rfl) ?_; intro a hF
                refine h_val 4 #[true, true, true, true, true, false, false, false, false, false, false, false, false, false, false, false, false, false, false, false, false, false, false, false, false] rfl (by kernel_rfl) hF rfl rfl rfl (fun w hS => e_ia hF rfl rfl Try.underlying73 Try.sizeOf3 (by decide) (by decide)) (hM.pick [0, 1] rfl rfl) ?_; intro a hF
                refine h_val 5 #[true, true, true, true, true, true, false, false, false, false, false, false, false, false, false, false, false, false, false, false, false, false, false, false, false] rfl (by kernel_rfl) hF rfl rfl rfl (fun w hS => e_ldi (i := 0) (k := 2) hF hS rfl rfl rfl rfl rfl Try.isAgg3 (by decide) (by decide)) (hM.pick [0, 1] rfl rfl) ?_; intro a hF
                refine h_val 6 #[true, true, true, true, true, true, true, false, false, false, false, false, false, false, false, false, false, false, false, false, false, false, false, false, false] rfl (by kernel_rfl) hF rfl rfl rfl (fun w hS => e_mul hF rfl rfl) (hM.pick [0, 1] rfl rfl) ?_; intro a hF
                refine h_val 7 #[true, true, true, true, true, true, true, true, false, false, false, false, false, false, false, false, false, false, false, false, false, false, false, false, false] rfl (by kernel_rfl) hF rfl rfl rfl (fun w hS => e_move hF rfl) (hM.pick [0, 1] rfl rfl) ?_; intro a hF
                refine h_val 8 #[true, true, true, true, true, true, true, true, true, false, false, false, false, false, false, false, false, false, false, false, false, false, false, false, false] rfl (by kernel_rfl) hF rfl rfl rfl (fun w hS => e_move hF rfl) (hM.pick [0, 1] rfl rfl) ?_; intro a hF
                refine h_val 9 #[true, true, true, true, true, true, true, true, true, true, false, false, false, false, false, false, false, false, false, false, false, false, false, false, false] rfl (by kernel_rfl) hF rfl rfl rfl (fun w hS => e_nilc hF rfl) (hM.pick [0, 1] rfl rfl) ?_; intro a hF
                refine h_val 10 #[true, true, true, true, true, true, true, true, true, true, true, false, false, false, false, false, false, false, false, false, false, false, false, false, false] rfl (by kernel_rfl) hF rfl rfl rfl (fun w hS => e_fa hF rfl Try.underlying75 rfl Try.sizeOf73 rfl rfl) (hM.pick [0, 1] rfl rfl) ?_; intro a hF
                refine h_val 11 #[true, true, true, true, true, true, true, true, true, true, true, true, false, false, false, false, false, false, false, false, false, false, false, false, false] rfl (by kernel_rfl) hF rfl rfl rfl (fun w hS => e_ia hF rfl rfl Try.underlying73 Try.sizeOf3 (by decide) (by decide)) (hM.pick [0, 1] rfl rfl) ?_; intro a hF
                refine h_val 12 #[true, true, true, true, true, true, true, true, true, true, true, true, true, false, false, false, false, false, false, false, false, false, false, false, false] rfl (by kernel_rfl) hF rfl rfl rfl (fun w hS => e_ldi (i := 0) (k := 1) hF hS rfl rfl rfl rfl rfl Try.isAgg3 (by decide) (by decide)) (hM.pick [0, 1] rfl rfl) ?_; intro a hF
                refine h_val 13 #[true, true, true, true, true, true, true, true, true, true, true, true, true, true, false, false, false, false, false, false, false, false, false, false, false] rfl (by kernel_rfl) hF rfl rfl rfl (fun w hS => e_mul hF rfl rfl) (hM.pick [0, 1] rfl rfl) ?_; intro a hF
                refine h_val 14 #[true, true, true, true, true, true, true, true, true, true, true, true, true, true, true, false, false, false, false, false, false, false, false, false, false] rfl (by kernel_rfl) hF rfl rfl rfl (fun w hS => e_add hF rfl rfl) (hM.pick [0, 1] rfl rfl) ?_; intro a hF
                refine h_val 15 #[true, true, true, true, true, true, true, true, true, true, true, true, true, true, true, true, false, false, false, false, false, false, false, false, false] rfl (by kernel_rfl) hF rfl rfl rfl (fun w hS => e_move hF rfl) (hM.pick [0, 1] rfl rfl) ?_; intro a hF
                refine h_val 16 #[true, true, true, true, true, true, true, true, true, true, true, true, true, true, true, true, true, false, false, false, false, false, false, false, false] rfl (by kernel_rfl) hF rfl rfl rfl (fun w hS => e_neq hF rfl rfl) (hM.pick [0, 1] rfl rfl) ?_; intro a hF
                refine h_val 17 #[true, true, true, true, true, true, true, true, true, true, true, true, true, true, true, true, true, true, false, false, false, false, false, false, false] rfl (by kernel_rfl) hF rfl rfl rfl (fun w hS => e_move hF rfl) (hM.pick [0, 1] rfl rfl) ?_; intro a hF
                have hF := hF.topb (congrArg Bool.not (decide_eq_true c70))
                refine h_val 18 #[true, true, true, true, true, true, true, true, true, true, true, true, true, true, true, true, true, true, true, false, false, false, false, false, false] rfl (by kernel_rfl) hF rfl rfl rfl (fun w hS => e_move hF rfl) (hM.pick [0, 1] rfl rfl) ?_; intro a hF
                refine h_val 19 #[true, true, true, true, true, true, true, true, true, true, true, true, true, true, true, true, true, true, true, true, false, false, false, false, false] rfl (by kernel_rfl) hF rfl rfl rfl (fun w hS => e_move hF rfl) (hM.pick [0, 1] rfl rfl) ?_; intro a hF
                refine h_val 20 #[true, true, true, true, true, true, true, true, true, true, true, true, true, true, true, true, true, true, true, true, true, false, false, false, false] rfl (by kernel_rfl) hF rfl rfl rfl (fun w hS => e_nilc hF rfl) (hM.pick [0, 1] rfl rfl) ?_; intro a hF
                refine h_val 21 #[true, true, true, true, true, true, true, true, true, true, true, true, true, true, true, true, true, true, true, true, true, true, false, false, false] rfl (by kernel_rfl) hF rfl rfl rfl (fun w hS => e_fa hF rfl Try.underlying75 rfl Try.sizeOf3 rfl rfl) (hM.pick [0, 1] rfl rfl) ?_; intro a hF
                refine h_val 22 #[true, true, true, true, true, true, true, true, true, true, true, true, true, true, true, true, true, true, true, true, true, true, true, false, false] rfl (by kernel_rfl) hF rfl rfl rfl (fun w hS => e_ld (i := 0) (k := 4) hF hS rfl rfl rfl rfl Try.isAgg3 rfl) (hM.pick [0, 1] rfl rfl) ?_; intro a hF
                refine h_val 23 #[true, true, true, true, true, true, true, true, true, true, true, true, true, true, true, true, true, true, true, true, true, true, true, true, false] rfl (by kernel_rfl) hF rfl rfl rfl (fun w hS => e_gtr hF rfl rfl) (hM.pick [0, 1] rfl rfl) ?_; intro a hF
                refine h_val 24 #[true, true, true, true, true, true, true, true, true, true, true, true, true, true, true, true, true, true, true, true, true, true, true, true, true] rfl (by kernel_rfl) hF rfl rfl rfl (fun w hS => e_pick_f hF rfl rfl) (hM.pick [0, 1] rfl rfl) ?_; intro a hF
                refine h_done rfl ?_
                refine then_n ?_
                rcases ite_cases H with ⟨c71, H⟩ | ⟨c71, H⟩
                ·
                  refine s_cond_t hF rfl (decide_eq_true c71) ?_
                  refine wp_exit ?_
                  refine then_x ?_
                  refine blk_x ?_
                  refine then_n ?_
                  refine s_region ?_
                  refine s_val hF rfl rfl rfl (e_move hF rfl) ?_; intro a hF
                  refine s_val hF rfl rfl rfl (e_add hF rfl rfl) ?_; intro a hF
                  refine s_val hF rfl rfl rfl (e_assign hF rfl) ?_; intro a hF
                  refine s_nil ?_
                  refine then_n ?_
                  exact ⟨v65, (wrap64 (x60 + 1)), x61, x62, x63, x64, x66, H, hF.sub _ ⟨rfl, rfl, rfl, rfl, trivial⟩, hM.pick [0, 1] rfl rfl⟩
                ·
                  refine s_cond_f hF rfl (decide_eq_false c71) ?_
                  refine wp_skip ?_
                  refine then_n ?_
                  refine wp_seq ?_
                  obtain ⟨c72, H⟩ := ite_some H
                  refine s_held (fun w => Ms X w0 w [rowR cd50 v65 x66]) #[false, false, false, false, false, false, false, false, false, false, false, false, false, false] mixed rfl rfl hM ?_; intro w hf hM; clear hf
                  refine h_val 0 #[true, false, false, false, false, false, false, false, false, false, false, false, false, false] rfl (by kernel_rfl) hF rfl rfl rfl (fun w hS => e_move hF rfl) (hM.pick [1] rfl rfl) ?_; intro a hF
                  refine h_val 1 #[true, true, false, false, false, false, false, false, false, false, false, false, false, false] rfl (by kernel_rfl) hF rfl rfl rfl (fun w hS => e_move hF rfl) (hM.pick [1] rfl rfl) ?_; intro a hF
                  refine h_val 2 #[true, true, true, false, false, false, false, false, false, false, false, false, false, false] rfl (by kernel_rfl) hF rfl rfl rfl (fun w hS => e_move hF rfl) (hM.pick [1] rfl rfl) ?_; intro a hF
                  refine h_val 3 #[true, true, true, true, false, false, false, false, false, false, false, false, false, false] rfl (by kernel_rfl) hF rfl rfl rfl (fun w hS => e_move hF rfl) (hM.pick [1] rfl rfl) ?_; intro a hF
                  refine h_val 4 #[true, true, true, true, true, false, false, false, false, false, false, false, false, false] rfl (by kernel_rfl) hF rfl rfl rfl (fun w hS => e_move hF rfl) (hM.pick [1] rfl rfl) ?_; intro a hF
                  refine h_val 5 #[true, true, true, true, true, true, false, false, false, false, false, false, false, false] rfl (by kernel_rfl) hF rfl rfl rfl (fun w hS => e_move hF rfl) (hM.pick [1] rfl rfl) ?_; intro a hF
                  refine h_val 6 #[true, true, true, true, true, true, true, false, false, false, false, false, false, false] rfl (by kernel_rfl) hF rfl rfl rfl (fun w hS => e_nilc hF rfl) (hM.pick [1] rfl rfl) ?_; intro a hF
                  refine h_val 7 #[true, true, true, true, true, true, true, true, false, false, false, false, false, false] rfl (by kernel_rfl) hF rfl rfl rfl (fun w hS => e_fa hF rfl Try.underlying75 rfl Try.sizeOf73 rfl rfl) (hM.pick [1] rfl rfl) ?_; intro a hF
                  refine h_val 8 #[true, true, true, true, true, true, true, true, true, false, false, false, false, false] rfl (by kernel_rfl) hF rfl rfl rfl (fun w hS => e_ia hF rfl rfl Try.underlying73 Try.sizeOf3 c72.1 c72.2) (hM.pick [1] rfl rfl) ?_; intro a hF
                  refine h_val 10 #[true, true, true, true, true, true, true, true, true, false, true, false, false, false] rfl (by kernel_rfl) hF rfl rfl rfl (fun w hS => e_nilc hF rfl) (hM.pick [1] rfl rfl) ?_; intro a hF
                  refine h_val 11 #[true, true, true, true, true, true, true, true, true, false, true, true, false, false] rfl (by kernel_rfl) hF rfl rfl rfl (fun w hS => e_fa hF rfl Try.underlying75 rfl Try.sizeOf73 rfl rfl) (hM.pick [1] rfl rfl) ?_; intro a hF
                  refine h_one 9 #[true, true, true, true, true, true, true, true, true, true, true, true, false, false] rfl (by kernel_rfl) ?_
                  refine s_sti (i := 0) (k := 1) hF hM rfl rfl rfl rfl rfl rfl rfl Try.sizeOf3 c72.1 c72.2 ?_; intro a w hF hM
                  refine s_nil ⟨rfl, (hM.pick [1] rfl rfl), ?_⟩
                  refine h_val 12 #[true, true, true, true, true, true, true, true, true, true, true, true, true, false] rfl (by kernel_rfl) hF rfl rfl rfl (fun w hS => e_ia hF rfl rfl Try.underlying73 Try.sizeOf3 c72.1 c72.2) (hM.pick [1] rfl rfl) ?_; intro a hF
                  refine h_one 13 #[true, true, true, true, true, true, true, true, true, true, true, true, true, true] rfl (by kernel_rfl) ?_
                  refine s_sti (i := 0) (k := 2) hF hM rfl rfl rfl rfl rfl rfl rfl Try.sizeOf3 c72.1 c72.2 ?_; intro a w hF hM
                  refine s_nil ⟨rfl, (hM.pick [1] rfl rfl), ?_⟩
                  refine h_done rfl ?_
                  refine then_n ?_
                  refine wp_seq ?_
                  refine wp_mono (Q := fun e a w => e = Exit.normal ∧ Fr 180 a [(0, pt b1 0), (1, Value.int .i64 a1), (4, Value.int .i64 (wrap64 ((y2.get a1) - t22))), (5, Value.int .i64 x60), (6, Value.int .i64 (wrap64 ((wrap64 ((wrap64 ((y2.get a1) - t22)) - (wrap64 (x60 * (x62.get 0))))).tdiv (x61.get 0))))] ∧ Ms X w0 w [boxR b1 [Pt.ar y2, Pt.ar (x61.set a1 x60), Pt.ar (x62.set a1 (wrap64 ((wrap64 ((wrap64 ((y2.get a1) - t22)) - (wrap64 (x60 * (x62.get 0))))).tdiv (x61.get 0)))), Pt.int (wrap64 (x63 - x60)), Pt.int (wrap64 (x64 - (wrap64 ((wrap64 ((wrap64 ((y2.get a1) - t22)) - (wrap64 (x60 * (x62.get 0))))).tdiv (x61.get 0))))), Pt.any v65] 75, rowR cd50 v65 x66]) ?_ ?_
                  · skip
                    refine s_held (fun w => Ms X w0 w [rowR cd50 v65 x66]) #[false, false, false, false, false, false, false, false, false, false, false, false, false, false, false, false, false, false, false, false] mixed rfl rfl hM ?_; intro w hf hM; clear hf
                    refine h_val 0 #[true, false, false, false, false, false, false, false, false, false, false, false, false, false, false, false, false, false, false, false] rfl (by kernel_rfl) hF rfl rfl rfl (fun w hS => e_move hF rfl) (hM.pick [1] rfl rfl) ?_; intro a hF
                    refine h_val 1 #[true, true, false, false, false, false, false, false, false, false, false, false, false, false, false, false, false, false, false, false] rfl (by kernel_rfl) hF rfl rfl rfl (fun w hS => e_move hF rfl) (hM.pick [1] rfl rfl) ?_; intro a hF
                    refine h_val 2 #[true, true, true, false, false, false, false, false, false, false, false, false, false, false, false, false, false, false, false, false] rfl (by kernel_rfl) hF rfl rfl rfl (fun w hS => e_move hF rfl) (hM.pick [1] rfl rfl) ?_; intro a hF
                    refine h_val 3 #[true, true, true, true, false, false, false, false, false, false, false, false, false, false, false, false, false, false, false, false] rfl (by kernel_rfl) hF rfl rfl rfl (fun w hS => e_nilc hF rfl) (hM.pick [1] rfl rfl) ?_; intro a hF
                    refine h_val 4 #[true, true, true, true, true, false, false, false, false, false, false, false, false, false, false, false, false, false, false, false] rfl (by kernel_rfl) hF rfl rfl rfl (fun w hS => e_fa hF rfl Try.underlying75 rfl Try.sizeOf3 rfl rfl) (hM.pick [1] rfl rfl) ?_; intro a hF
                    refine h_val 6 #[true, true, true, true, true, false, true, false, false, false, false, false, false, false, false, false, false, false, false, false] rfl (by kernel_rfl) hF rfl rfl rfl (fun w hS => e_move hF rfl) (hM.pick [1] rfl rfl) ?_; intro a hF
                    refine h_val 8 #[true, true, true, true, true, false, true, false, true, false, false, false, false, false, false, false, false, false, false, false] rfl (by kernel_rfl) hF rfl rfl rfl (fun w hS => e_move hF rfl) (hM.pick [1] rfl rfl) ?_; intro a hF
                    refine h_val 9 #[true, true, true, true, true, false, true, false, true, true, false, false, false, false, false, false, false, false, false, false] rfl (by kernel_rfl) hF rfl rfl rfl (fun w hS => e_nilc hF rfl) (hM.pick [1] rfl rfl) ?_; intro a hF
                    refine h_val 10 #[true, true, true, true, true, false, true, false, true, true, true, false, false, false, false, false, false, false, false, false] rfl (by kernel_rfl) hF rfl rfl rfl (fun w hS => e_fa hF rfl Try.underlying75 rfl Try.sizeOf3 rfl rfl) (hM.pick [1] rfl rfl) ?_; intro a hF
                    refine h_val 12 #[true, true, true, true, true, false, true, false, true, true, true, false, true, false, false, false, false, false, false, false] rfl (by kernel_rfl) hF rfl rfl rfl (fun w hS => e_move hF rfl) (hM.pick [1] rfl rfl) ?_; intro a hF
                    refine h_two 5 11 #[true, true, true, true, true, true, true, false, true, true, true, false, true, false, false, false, false, false, false, false] #[true, true, true, true, true, false, true, false, true, true, true, true, true, false, false, false, false, false, false, false] rfl rfl rfl rfl (by kernel_rfl) ?_ ?_
                    · skip
                      refine s_val hF rfl rfl rfl (e_ld (i := 0) (k := 3) hF hM rfl rfl rfl rfl Try.isAgg3 rfl) ?_; intro a hF
                      refine s_nil ⟨rfl, (hM.pick [1] rfl rfl), ?_⟩
                      refine h_val 7 #[true, true, true, true, true, true, true, true, true, true, true, false, true, false, false, false, false, false, false, false] rfl (by kernel_rfl) hF rfl rfl rfl (fun w hS => e_sub hF rfl rfl) (hM.pick [1] rfl rfl) ?_; intro a hF
                      refine h_one 11 #[true, true, true, true, true, true, true, true, true, true, true, true, true, false, false, false, false, false, false, false] rfl (by kernel_rfl) ?_
                      refine s_val hF rfl rfl rfl (e_ld (i := 0) (k := 4) hF hM rfl rfl rfl rfl Try.isAgg3 rfl) ?_; intro a hF
                      refine s_nil ⟨rfl, (hM.pick [1] rfl rfl), ?_⟩
                      refine h_val 13 #[true, true, true, true, true, true, true, true, true, true, true, true, true, true, false, false, false, false, false, false] rfl (by kernel_rfl) hF rfl rfl rfl (fun w hS => e_sub hF rfl rfl) (hM.pick [1] rfl rfl) ?_; intro a hF
                      refine h_val 14 #[true, true, true, true, true, true, true, true, true, true, true, true, true, true, true, false, false, false, false, false] rfl (by kernel_rfl) hF rfl rfl rfl (fun w hS => e_nilc hF rfl) (hM.pick [1] rfl rfl) ?_; intro a hF
                      refine h_val 15 #[true, true, true, true, true, true, true, true, true, true, true, true, true, true, true, true, false, false, false, false] rfl (by kernel_rfl) hF rfl rfl rfl (fun w hS => e_fa hF rfl Try.underlying75 rfl Try.sizeOf3 rfl rfl) (hM.pick [1] rfl rfl) ?_; intro a hF
                      refine h_one 16 #[true, true, true, true, true, true, true, true, true, true, true, true, true, true, true, true, true, false, false, false] rfl (by kernel_rfl) ?_
                      refine s_st (i := 0) (k := 3) (Pt.int (wrap64 (x63 - x60))) hF hM rfl rfl rfl rfl rfl rfl rfl rfl Try.sizeOf3 rfl ?_; intro a w hF hM
                      refine s_nil ⟨rfl, (hM.pick [1] rfl rfl), ?_⟩
                      refine h_val 17 #[true, true, true, true, true, true, true, true, true, true, true, true, true, true, true, true, true, true, false, false] rfl (by kernel_rfl) hF rfl rfl rfl (fun w hS => e_nilc hF rfl) (hM.pick [1] rfl rfl) ?_; intro a hF
                      refine h_val 18 #[true, true, true, true, true, true, true, true, true, true, true, true, true, true, true, true, true, true, true, false] rfl (by kernel_rfl) hF rfl rfl rfl (fun w hS => e_fa hF rfl Try.underlying75 rfl Try.sizeOf3 rfl rfl) (hM.pick [1] rfl rfl) ?_; intro a hF
                      refine h_one 19 #[true, true, true, true, true, true, true, true, true, true, true, true, true, true, true, true, true, true, true, true] rfl (by kernel_rfl) ?_
                      refine s_st (i := 0) (k := 4) (Pt.int (wrap64 (x64 - (wrap64 ((wrap64 ((wrap64 ((y2.get a1) - t22)) - (wrap64 (x60 * (x62.get 0))))).tdiv (x61.get 0)))))) hF hM rfl rfl rfl rfl rfl rfl rfl rfl Try.sizeOf3 rfl ?_; intro a w hF hM
                      refine s_nil ⟨rfl, (hM.pick [1] rfl rfl), ?_⟩
                      exact h_done rfl ⟨rfl, hF.sub _ ⟨rfl, rfl, rfl, rfl, rfl, trivial⟩, hM.pick [0, 1] rfl rfl⟩
                    · skip
                      refine s_val hF rfl rfl rfl (e_ld (i := 0) (k := 4) hF hM rfl rfl rfl rfl Try.isAgg3 rfl) ?_; intro a hF
                      refine s_nil ⟨rfl, (hM.pick [1] rfl rfl), ?_⟩
                      refine h_val 13 #[true, true, true, true, true, false, true, false, true, true, true, true, true, true, false, false, false, false, false, false] rfl (by kernel_rfl) hF rfl rfl rfl (fun w hS => e_sub hF rfl rfl) (hM.pick [1] rfl rfl) ?_; intro a hF
                      refine h_one 5 #[true, true, true, true, true, true, true, false, true, true, true, true, true, true, false, false, false, false, false, false] rfl (by kernel_rfl) ?_
                      refine s_val hF rfl rfl rfl (e_ld (i := 0) (k := 3) hF hM rfl rfl rfl rfl Try.isAgg3 rfl) ?_; intro a hF
                      refine s_nil ⟨rfl, (hM.pick [1] rfl rfl), ?_⟩
                      refine h_val 7 #[true, true, true, true, true, true, true, true, true, true, true, true, true, true, false, false, false, false, false, false] rfl (by kernel_rfl) hF rfl rfl rfl (fun w hS => e_sub hF rfl rfl) (hM.pick [1] rfl rfl) ?_; intro a hF
                      refine h_val 14 #[true, true, true, true, true, true, true, true, true, true, true, true, true, true, true, false, false, false, false, false] rfl (by kernel_rfl) hF rfl rfl rfl (fun w hS => e_nilc hF rfl) (hM.pick [1] rfl rfl) ?_; intro a hF
                      refine h_val 15 #[true, true, true, true, true, true, true, true, true, true, true, true, true, true, true, true, false, false, false, false] rfl (by kernel_rfl) hF rfl rfl rfl (fun w hS => e_fa hF rfl Try.underlying75 rfl Try.sizeOf3 rfl rfl) (hM.pick [1] rfl rfl) ?_; intro a hF
                      refine h_one 16 #[true, true, true, true, true, true, true, true, true, true, true, true, true, true, true, true, true, false, false, false] rfl (by kernel_rfl) ?_
                      refine s_st (i := 0) (k := 3) (Pt.int (wrap64 (x63 - x60))) hF hM rfl rfl rfl rfl rfl rfl rfl rfl Try.sizeOf3 rfl ?_; intro a w hF hM
                      refine s_nil ⟨rfl, (hM.pick [1] rfl rfl), ?_⟩
                      refine h_val 17 #[true, true, true, true, true, true, true, true, true, true, true, true, true, true, true, true, true, true, false, false] rfl (by kernel_rfl) hF rfl rfl rfl (fun w hS => e_nilc hF rfl) (hM.pick [1] rfl rfl) ?_; intro a hF
                      refine h_val 18 #[true, true, true, true, true, true, true, true, true, true, true, true, true, true, true, true, true, true, true, false] rfl (by kernel_rfl) hF rfl rfl rfl (fun w hS => e_fa hF rfl Try.underlying75 rfl Try.sizeOf3 rfl rfl) (hM.pick [1] rfl rfl) ?_; intro a hF
                      refine h_one 19 #[true, true, true, true, true, true, true, true, true, true, true, true, true, true, true, true, true, true, true, true] rfl (by kernel_rfl) ?_
                      refine s_st (i := 0) (k := 4) (Pt.int (wrap64 (x64 - (wrap64 ((wrap64 ((wrap64 ((y2.get a1) - t22)) - (wrap64 (x60 * (x62.get 0))))).tdiv (x61.get 0)))))) hF hM rfl rfl rfl rfl rfl rfl rfl rfl Try.sizeOf3 rfl ?_; intro a w hF hM
                      refine s_nil ⟨rfl, (hM.pick [1] rfl rfl), ?_⟩
                      exact h_done rfl ⟨rfl, hF.sub _ ⟨rfl, rfl, rfl, rfl, rfl, trivial⟩, hM.pick [0, 1] rfl rfl⟩
                  rintro e a w ⟨rfl, hF, hM⟩
                  refine then_n ?_
                  refine wp_seq ?_
                  obtain ⟨t73, h74, H⟩ := bind_some H
                  refine s_region ?_
                  refine s_val hF rfl rfl rfl (e_move hF rfl) ?_; intro a hF
                  refine s_val hF rfl rfl rfl (e_move hF rfl) ?_; intro a hF
                  refine s_val hF rfl rfl rfl (e_add hF rfl rfl) ?_; intro a hF
                  refine s_callx hF rfl rfl rfl Try.call73 (hrec b1 y2 (x61.set a1 x60) (x62.set a1 (wrap64 ((wrap64 ((wrap64 ((y2.get a1) - t22)) - (wrap64 (x60 * (x62.get 0))))).tdiv (x61.get 0)))) (wrap64 (x63 - x60)) (wrap64 (x64 - (wrap64 ((wrap64 ((wrap64 ((y2.get a1) - t22)) - (wrap64 (x60 * (x62.get 0))))).tdiv (x61.get 0))))) v65 x66 (wrap64 (a1 + 1)) (hM.lend [0, 1] rfl rfl) t73 h74) ?_; intro a w v hF hR
                  obtain ⟨v75, hR, rfl⟩ := hR; have hM := hM.back [0, 1] [] (by decide) rfl rfl hR
                  refine s_nil ?_
                  refine then_n ?_
                  refine wp_seq ?_
                  refine wp_mono (Q := fun e a w => e = Exit.normal ∧ Fr 180 a [(0, pt b1 0), (1, Value.int .i64 a1), (4, Value.int .i64 (wrap64 ((y2.get a1) - t22))), (5, Value.int .i64 x60)] ∧ Ms X w0 w [boxR b1 [Pt.ar y2, Pt.ar t73.2.1, Pt.ar t73.2.2.1, Pt.int (wrap64 (t73.2.2.2.1 + x60)), Pt.int (wrap64 (t73.2.2.2.2.1 + (wrap64 ((wrap64 ((wrap64 ((y2.get a1) - t22)) - (wrap64 (x60 * (x62.get 0))))).tdiv (x61.get 0))))), Pt.any v75] 75, rowR cd50 v75 t73.2.2.2.2.2]) ?_ ?_
                  · skip
                    refine s_held (fun w => Ms X w0 w [rowR cd50 v75 t73.2.2.2.2.2]) #[false, false, false, false, false, false, false, false, false, false, false, false, false, false, false, false, false, false, false, false] mixed rfl rfl hM ?_; intro w hf hM; clear hf
                    refine h_val 0 #[true, false, false, false, false, false, false, false, false, false, false, false, false, false, false, false, false, false, false, false] rfl (by kernel_rfl) hF rfl rfl rfl (fun w hS => e_move hF rfl) (hM.pick [1] rfl rfl) ?_; intro a hF
                    refine h_val 1 #[true, true, false, false, false, false, false, false, false, false, false, false, false, false, false, false, false, false, false, false] rfl (by kernel_rfl) hF rfl rfl rfl (fun w hS => e_move hF rfl) (hM.pick [1] rfl rfl) ?_; intro a hF
                    refine h_val 2 #[true, true, true, false, false, false, false, false, false, false, false, false, false, false, false, false, false, false, false, false] rfl (by kernel_rfl) hF rfl rfl rfl (fun w hS => e_move hF rfl) (hM.pick [1] rfl rfl) ?_; intro a hF
                    refine h_val 3 #[true, true, true, true, false, false, false, false, false, false, false, false, false, false, false, false, false, false, false, false] rfl (by kernel_rfl) hF rfl rfl rfl (fun w hS => e_nilc hF rfl) (hM.pick [1] rfl rfl) ?_; intro a hF
                    refine h_val 4 #[true, true, true, true, true, false, false, false, false, false, false, false, false, false, false, false, false, false, false, false] rfl (by kernel_rfl) hF rfl rfl rfl (fun w hS => e_fa hF rfl Try.underlying75 rfl Try.sizeOf3 rfl rfl) (hM.pick [1] rfl rfl) ?_; intro a hF
                    refine h_val 6 #[true, true, true, true, true, false, true, false, false, false, false, false, false, false, false, false, false, false, false, false] rfl (by kernel_rfl) hF rfl rfl rfl (fun w hS => e_move hF rfl) (hM.pick [1] rfl rfl) ?_; intro a hF
                    refine h_val 8 #[true, true, true, true, true, false, true, false, true, false, false, false, false, false, false, false, false, false, false, false] rfl (by kernel_rfl) hF rfl rfl rfl (fun w hS => e_move hF rfl) (hM.pick [1] rfl rfl) ?_; intro a hF
                    refine h_val 9 #[true, true, true, true, true, false, true, false, true, true, false, false, false, false, false, false, false, false, false, false] rfl (by kernel_rfl) hF rfl rfl rfl (fun w hS => e_nilc hF rfl) (hM.pick [1] rfl rfl) ?_; intro a hF
                    refine h_val 10 #[true, true, true, true, true, false, true, false, true, true, true, false, false, false, false, false, false, false, false, false] rfl (by kernel_rfl) hF rfl rfl rfl (fun w hS => e_fa hF rfl Try.underlying75 rfl Try.sizeOf3 rfl rfl) (hM.pick [1] rfl rfl) ?_; intro a hF
                    refine h_val 12 #[true, true, true, true, true, false, true, false, true, true, true, false, true, false, false, false, false, false, false, false] rfl (by kernel_rfl) hF rfl rfl rfl (fun w hS => e_move hF rfl) (hM.pick [1] rfl rfl) ?_; intro a hF
                    refine h_two 5 11 #[true, true, true, true, true, true, true, false, true, true, true, false, true, false, false, false, false, false, false, false] #[true, true, true, true, true, false, true, false, true, true, true, true, true, false, false, false, false, false, false, false] rfl rfl rfl rfl (by kernel_rfl) ?_ ?_
                    · skip
                      refine s_val hF rfl rfl rfl (e_ld (i := 0) (k := 3) hF hM rfl rfl rfl rfl Try.isAgg3 rfl) ?_; intro a hF
                      refine s_nil ⟨rfl, (hM.pick [1] rfl rfl), ?_⟩
                      refine h_val 7 #[true, true, true, true, true, true, true, true, true, true, true, false, true, false, false, false, false, false, false, false] rfl (by kernel_rfl) hF rfl rfl rfl (fun w hS => e_add hF rfl rfl) (hM.pick [1] rfl rfl) ?_; intro a hF
                      refine h_one 11 #[true, true, true, true, true, true, true, true, true, true, true, true, true, false, false, false, false, false, false, false] rfl (by kernel_rfl) ?_
                      refine s_val hF rfl rfl rfl (e_ld (i := 0) (k := 4) hF hM rfl rfl rfl rfl Try.isAgg3 rfl) ?_; intro a hF
                      refine s_nil ⟨rfl, (hM.pick [1] rfl rfl), ?_⟩
                      refine h_val 13 #[true, true, true, true, true, true, true, true, true, true, true, true, true, true, false, false, false, false, false, false] rfl (by kernel_rfl) hF rfl rfl rfl (fun w hS => e_add hF rfl rfl) (hM.pick [1] rfl rfl) ?_; intro a hF
                      refine h_val 14 #[true, true, true, true, true, true, true, true, true, true, true, true, true, true, true, false, false, false, false, false] rfl (by kernel_rfl) hF rfl rfl rfl (fun w hS => e_nilc hF rfl) (hM.pick [1] rfl rfl) ?_; intro a hF
                      refine h_val 15 #[true, true, true, true, true, true, true, true, true, true, true, true, true, true, true, true, false, false, false, false] rfl (by kernel_rfl) hF rfl rfl rfl (fun w hS => e_fa hF rfl Try.underlying75 rfl Try.sizeOf3 rfl rfl) (hM.pick [1] rfl rfl) ?_; intro a hF
                      refine h_one 16 #[true, true, true, true, true, true, true, true, true, true, true, true, true, true, true, true, true, false, false, false] rfl (by kernel_rfl) ?_
                      refine s_st (i := 0) (k := 3) (Pt.int (wrap64 (t73.2.2.2.1 + x60))) hF hM rfl rfl rfl rfl rfl rfl rfl rfl Try.sizeOf3 rfl ?_; intro a w hF hM
                      refine s_nil ⟨rfl, (hM.pick [1] rfl rfl), ?_⟩
                      refine h_val 17 #[true, true, true, true, true, true, true, true, true, true, true, true, true, true, true, true, true, true, false, false] rfl (by kernel_rfl) hF rfl rfl rfl (fun w hS => e_nilc hF rfl) (hM.pick [1] rfl rfl) ?_; intro a hF
                      refine h_val 18 #[true, true, true, true, true, true, true, true, true, true, true, true, true, true, true, true, true, true, true, false] rfl (by kernel_rfl) hF rfl rfl rfl (fun w hS => e_fa hF rfl Try.underlying75 rfl Try.sizeOf3 rfl rfl) (hM.pick [1] rfl rfl) ?_; intro a hF
                      refine h_one 19 #[true, true, true, true, true, true, true, true, true, true, true, true, true, true, true, true, true, true, true, true] rfl (by kernel_rfl) ?_
                      refine s_st (i := 0) (k := 4) (Pt.int (wrap64 (t73.2.2.2.2.1 + (wrap64 ((wrap64 ((wrap64 ((y2.get a1) - t22)) - (wrap64 (x60 * (x62.get 0))))).tdiv (x61.get 0)))))) hF hM rfl rfl rfl rfl rfl rfl rfl rfl Try.sizeOf3 rfl ?_; intro a w hF hM
                      refine s_nil ⟨rfl, (hM.pick [1] rfl rfl), ?_⟩
                      exact h_done rfl ⟨rfl, hF.sub _ ⟨rfl, rfl, rfl, rfl, trivial⟩, hM.pick [0, 1] rfl rfl⟩
                    · skip
                      refine s_val hF rfl rfl rfl (e_ld (i := 0) (k := 4) hF hM rfl rfl rfl rfl Try.isAgg3 rfl) ?_; intro a hF
                      refine s_nil ⟨rfl, (hM.pick [1] rfl rfl), ?_⟩
                      refine h_val 13 #[true, true, true, true, true, false, true, false, true, true, true, true, true, true, false, false, false, false, false, false] rfl (by kernel_rfl) hF rfl rfl rfl (fun w hS => e_add hF rfl rfl) (hM.pick [1] rfl rfl) ?_; intro a hF
                      refine h_one 5 #[true, true, true, true, true, true, true, false, true, true, true, true, true, true, false, false, false, false, false, false] rfl (by kernel_rfl) ?_
                      refine s_val hF rfl rfl rfl (e_ld (i := 0) (k := 3) hF hM rfl rfl rfl rfl Try.isAgg3 rfl) ?_; intro a hF
                      refine s_nil ⟨rfl, (hM.pick [1] rfl rfl), ?_⟩
                      refine h_val 7 #[true, true, true, true, true, true, true, true, true, true, true, true, true, true, false, false, false, false, false, false] rfl (by kernel_rfl) hF rfl rfl rfl (fun w hS => e_add hF rfl rfl) (hM.pick [1] rfl rfl) ?_; intro a hF
                      refine h_val 14 #[true, true, true, true, true, true, true, true, true, true, true, true, true, true, true, false, false, false, false, false] rfl (by kernel_rfl) hF rfl rfl rfl (fun w hS => e_nilc hF rfl) (hM.pick [1] rfl rfl) ?_; intro a hF
                      refine h_val 15 #[true, true, true, true, true, true, true, true, true, true, true, true, true, true, true, true, false, false, false, false] rfl (by kernel_rfl) hF rfl rfl rfl (fun w hS => e_fa hF rfl Try.underlying75 rfl Try.sizeOf3 rfl rfl) (hM.pick [1] rfl rfl) ?_; intro a hF
                      refine h_one 16 #[true, true, true, true, true, true, true, true, true, true, true, true, true, true, true, true, true, false, false, false] rfl (by kernel_rfl) ?_
                      refine s_st (i := 0) (k := 3) (Pt.int (wrap64 (t73.2.2.2.1 + x60))) hF hM rfl rfl rfl rfl rfl rfl rfl rfl Try.sizeOf3 rfl ?_; intro a w hF hM
                      refine s_nil ⟨rfl, (hM.pick [1] rfl rfl), ?_⟩
                      refine h_val 17 #[true, true, true, true, true, true, true, true, true, true, true, true, true, true, true, true, true, true, false, false] rfl (by kernel_rfl) hF rfl rfl rfl (fun w hS => e_nilc hF rfl) (hM.pick [1] rfl rfl) ?_; intro a hF
                      refine h_val 18 #[true, true, true, true, true, true, true, true, true, true, true, true, true, true, true, true, true, true, true, false] rfl (by kernel_rfl) hF rfl rfl rfl (fun w hS => e_fa hF rfl Try.underlying75 rfl Try.sizeOf3 rfl rfl) (hM.pick [1] rfl rfl) ?_; intro a hF
                      refine h_one 19 #[true, true, true, true, true, true, true, true, true, true, true, true, true, true, true, true, true, true, true, true] rfl (by kernel_rfl) ?_
                      refine s_st (i := 0) (k := 4) (Pt.int (wrap64 (t73.2.2.2.2.1 + (wrap64 ((wrap64 ((wrap64 ((y2.get a1) - t22)) - (wrap64 (x60 * (x62.get 0))))).tdiv (x61.get 0)))))) hF hM rfl rfl rfl rfl rfl rfl rfl rfl Try.sizeOf3 rfl ?_; intro a w hF hM
                      refine s_nil ⟨rfl, (hM.pick [1] rfl rfl), ?_⟩
                      exact h_done rfl ⟨rfl, hF.sub _ ⟨rfl, rfl, rfl, rfl, trivial⟩, hM.pick [0, 1] rfl rfl⟩
                  rintro e a w ⟨rfl, hF, hM⟩
                  refine then_n ?_
                  refine s_held (fun w => Ms X w0 w [rowR cd50 v75 t73.2.2.2.2.2]) #[false, false, false, false, false, false, false, false, false, false, false, false] mixed rfl rfl hM ?_; intro w hf hM; clear hf
                  refine h_val 0 #[true, false, false, false, false, false, false, false, false, false, false, false] rfl (by kernel_rfl) hF rfl rfl rfl (fun w hS => e_move hF rfl) (hM.pick [1] rfl rfl) ?_; intro a hF
                  refine h_val 1 #[true, true, false, false, false, false, false, false, false, false, false, false] rfl (by kernel_rfl) hF rfl rfl rfl (fun w hS => e_move hF rfl) (hM.pick [1] rfl rfl) ?_; intro a hF
                  refine h_val 2 #[true, true, true, false, false, false, false, false, false, false, false, false] rfl (by kernel_rfl) hF rfl rfl rfl (fun w hS => e_move hF rfl) (hM.pick [1] rfl rfl) ?_; intro a hF
                  refine h_val 3 #[true, true, true, true, false, false, false, false, false, false, false, false] rfl (by kernel_rfl) hF rfl rfl rfl (fun w hS => e_move hF rfl) (hM.pick [1] rfl rfl) ?_; intro a hF
                  refine h_val 4 #[true, true, true, true, true, false, false, false, false, false, false, false] rfl (by kernel_rfl) hF rfl rfl rfl (fun w hS => e_nilc hF rfl) (hM.pick [1] rfl rfl) ?_; intro a hF
                  refine h_val 5 #[true, true, true, true, true, true, false, false, false, false, false, false] rfl (by kernel_rfl) hF rfl rfl rfl (fun w hS => e_fa hF rfl Try.underlying75 rfl Try.sizeOf73 rfl rfl) (hM.pick [1] rfl rfl) ?_; intro a hF
                  refine h_val 6 #[true, true, true, true, true, true, true, false, false, false, false, false] rfl (by kernel_rfl) hF rfl rfl rfl (fun w hS => e_ia hF rfl rfl Try.underlying73 Try.sizeOf3 c72.1 c72.2) (hM.pick [1] rfl rfl) ?_; intro a hF
                  refine h_val 8 #[true, true, true, true, true, true, true, false, true, false, false, false] rfl (by kernel_rfl) hF rfl rfl rfl (fun w hS => e_nilc hF rfl) (hM.pick [1] rfl rfl) ?_; intro a hF
                  refine h_val 9 #[true, true, true, true, true, true, true, false, true, true, false, false] rfl (by kernel_rfl) hF rfl rfl rfl (fun w hS => e_fa hF rfl Try.underlying75 rfl Try.sizeOf73 rfl rfl) (hM.pick [1] rfl rfl) ?_; intro a hF
                  refine h_one 7 #[true, true, true, true, true, true, true, true, true, true, false, false] rfl (by kernel_rfl) ?_
                  refine s_sti (i := 0) (k := 1) hF hM rfl rfl rfl rfl rfl rfl rfl Try.sizeOf3 c72.1 c72.2 ?_; intro a w hF hM
                  refine s_nil ⟨rfl, (hM.pick [1] rfl rfl), ?_⟩
                  refine h_val 10 #[true, true, true, true, true, true, true, true, true, true, true, false] rfl (by kernel_rfl) hF rfl rfl rfl (fun w hS => e_ia hF rfl rfl Try.underlying73 Try.sizeOf3 c72.1 c72.2) (hM.pick [1] rfl rfl) ?_; intro a hF
                  refine h_one 11 #[true, true, true, true, true, true, true, true, true, true, true, true] rfl (by kernel_rfl) ?_
                  refine s_sti (i := 0) (k := 2) hF hM rfl rfl rfl rfl rfl rfl rfl Try.sizeOf3 c72.1 c72.2 ?_; intro a w hF hM
                  refine s_nil ⟨rfl, (hM.pick [1] rfl rfl), ?_⟩
                  refine h_done rfl ?_
                  refine blk_n ?_
                  refine then_n ?_
                  refine s_region ?_
                  refine s_val hF rfl rfl rfl (e_move hF rfl) ?_; intro a hF
                  refine s_val hF rfl rfl rfl (e_add hF rfl rfl) ?_; intro a hF
                  refine s_val hF rfl rfl rfl (e_assign hF rfl) ?_; intro a hF
                  refine s_nil ?_
                  refine then_n ?_
                  exact ⟨v75, (wrap64 (x60 + 1)), (t73.2.1.set a1 0), (t73.2.2.1.set a1 0), (wrap64 (t73.2.2.2.1 + x60)), (wrap64 (t73.2.2.2.2.1 + (wrap64 ((wrap64 ((wrap64 ((y2.get a1) - t22)) - (wrap64 (x60 * (x62.get 0))))).tdiv (x61.get 0))))), t73.2.2.2.2.2, H, hF.sub _ ⟨rfl, rfl, rfl, rfl, trivial⟩, hM.pick [0, 1] rfl rfl⟩
              ·
                refine s_held (fun w => Ms X w0 w [boxR b1 [Pt.ar y2, Pt.ar x61, Pt.ar x62, Pt.int x63, Pt.int x64, Pt.any v65] 75, rowR cd50 v65 x66]) #[false, false, false, false, false, false, false, false, false, false, false, false, false, false, false, false, false, false, false, false, false, false, false, false, false] mixed rfl rfl hM ?_; intro w hf hM; clear hf
                refine h_val 0 #[true, false, false, false, false, false, false, false, false, false, false, false, false, false, false, false, false, false, false, false, false, false, false, false, false] rfl (by kernel_rfl) hF rfl rfl rfl (fun w hS => e_move hF rfl) (hM.pick [0, 1] rfl rfl) ?_; intro a hF
                refine h_val 1 #[true, true, false, false, false, false, false, false, false, false, false, false, false, false, false, false, false, false, false, false, false, false, false, false, false] rfl (by kernel_rfl) hF rfl rfl rfl (fun w hS => e_move hF rfl) (hM.pick [0, 1] rfl rfl) ?_; intro a hF
                refine h_val 2 #[true, true, true, false, false, false, false, false, false, false, false, false, false, false, false, false, false, false, false, false, false, false, false, false, false] rfl (by kernel_rfl) hF rfl rfl rfl (fun w hS => e_nilc hF rfl) (hM.pick [0, 1] rfl rfl) ?_; intro a hF
                refine h_val 3 #[true, true, true, true, false, false, false, false, false, false, false, false, false, false, false, false, false, false, false, false, false, false, false, false, false] rfl (by kernel_rfl) hF rfl rfl rfl (fun w hS => e_fa hF rfl Try.underlying75 rfl Try.sizeOf73 rfl rfl) (hM.pick [0, 1] rfl rfl) ?_; intro a hF
                refine h_val 4 #[true, true, true, true, true, false, false, false, false, false, false, false, false, false, false, false, false, false, false, false, false, false, false, false, false] rfl (by kernel_rfl) hF rfl rfl rfl (fun w hS => e_ia hF rfl rfl Try.underlying73 Try.sizeOf3 (by decide) (by decide)) (hM.pick [0, 1] rfl rfl) ?_; intro a hF
                refine h_val 5 #[true, true, true, true, true, true, false, false, false, false, false, false, false, false, false, false, false, false, false, false, false, false, false, false, false] rfl (by kernel_rfl) hF rfl rfl rfl (fun w hS => e_ldi (i := 0) (k := 2) hF hS rfl rfl rfl rfl rfl Try.isAgg3 (by decide) (by decide)) (hM.pick [0, 1] rfl rfl) ?_; intro a hF
                refine h_val 6 #[true, true, true, true, true, true, true, false, false, false, false, false, false, false, false, false, false, false, false, false, false, false, false, false, false] rfl (by kernel_rfl) hF rfl rfl rfl (fun w hS => e_mul hF rfl rfl) (hM.pick [0, 1] rfl rfl) ?_; intro a hF
                refine h_val 7 #[true, true, true, true, true, true, true, true, false, false, false, false, false, false, false, false, false, false, false, false, false, false, false, false, false] rfl (by kernel_rfl) hF rfl rfl rfl (fun w hS => e_move hF rfl) (hM.pick [0, 1] rfl rfl) ?_; intro a hF
                refine h_val 8 #[true, true, true, true, true, true, true, true, true, false, false, false, false, false, false, false, false, false, false, false, false, false, false, false, false] rfl (by kernel_rfl) hF rfl rfl rfl (fun w hS => e_move hF rfl) (hM.pick [0, 1] rfl rfl) ?_; intro a hF
                refine h_val 9 #[true, true, true, true, true, true, true, true, true, true, false, false, false, false, false, false, false, false, false, false, false, false, false, false, false] rfl (by kernel_rfl) hF rfl rfl rfl (fun w hS => e_nilc hF rfl) (hM.pick [0, 1] rfl rfl) ?_; intro a hF
                refine h_val 10 #[true, true, true, true, true, true, true, true, true, true, true, false, false, false, false, false, false, false, false, false, false, false, false, false, false] rfl (by kernel_rfl) hF rfl rfl rfl (fun w hS => e_fa hF rfl Try.underlying75 rfl Try.sizeOf73 rfl rfl) (hM.pick [0, 1] rfl rfl) ?_; intro a hF
                refine h_val 11 #[true, true, true, true, true, true, true, true, true, true, true, true, false, false, false, false, false, false, false, false, false, false, false, false, false] rfl (by kernel_rfl) hF rfl rfl rfl (fun w hS => e_ia hF rfl rfl Try.underlying73 Try.sizeOf3 (by decide) (by decide)) (hM.pick [0, 1] rfl rfl) ?_; intro a hF
                refine h_val 12 #[true, true, true, true, true, true, true, true, true, true, true, true, true, false, false, false, false, false, false, false, false, false, false, false, false] rfl (by kernel_rfl) hF rfl rfl rfl (fun w hS => e_ldi (i := 0) (k := 1) hF hS rfl rfl rfl rfl rfl Try.isAgg3 (by decide) (by decide)) (hM.pick [0, 1] rfl rfl) ?_; intro a hF
                refine h_val 13 #[true, true, true, true, true, true, true, true, true, true, true, true, true, true, false, false, false, false, false, false, false, false, false, false, false] rfl (by kernel_rfl) hF rfl rfl rfl (fun w hS => e_mul hF rfl rfl) (hM.pick [0, 1] rfl rfl) ?_; intro a hF
                refine h_val 14 #[true, true, true, true, true, true, true, true, true, true, true, true, true, true, true, false, false, false, false, false, false, false, false, false, false] rfl (by kernel_rfl) hF rfl rfl rfl (fun w hS => e_add hF rfl rfl) (hM.pick [0, 1] rfl rfl) ?_; intro a hF
                refine h_val 15 #[true, true, true, true, true, true, true, true, true, true, true, true, true, true, true, true, false, false, false, false, false, false, false, false, false] rfl (by kernel_rfl) hF rfl rfl rfl (fun w hS => e_move hF rfl) (hM.pick [0, 1] rfl rfl) ?_; intro a hF
                refine h_val 16 #[true, true, true, true, true, true, true, true, true, true, true, true, true, true, true, true, true, false, false, false, false, false, false, false, false] rfl (by kernel_rfl) hF rfl rfl rfl (fun w hS => e_neq hF rfl rfl) (hM.pick [0, 1] rfl rfl) ?_; intro a hF
                refine h_val 17 #[true, true, true, true, true, true, true, true, true, true, true, true, true, true, true, true, true, true, false, false, false, false, false, false, false] rfl (by kernel_rfl) hF rfl rfl rfl (fun w hS => e_move hF rfl) (hM.pick [0, 1] rfl rfl) ?_; intro a hF
                have hF := hF.topb (congrArg Bool.not (decide_eq_false c70))
                refine h_skip 18 #[true, true, true, true, true, true, true, true, true, true, true, true, true, true, true, true, true, true, true, false, false, false, false, false, false] rfl (by kernel_rfl) hF rfl rfl rfl (hM.pick [0, 1] rfl rfl) ?_; intro a hF
                refine h_skip 19 #[true, true, true, true, true, true, true, true, true, true, true, true, true, true, true, true, true, true, true, true, false, false, false, false, false] rfl (by kernel_rfl) hF rfl rfl rfl (hM.pick [0, 1] rfl rfl) ?_; intro a hF
                refine h_skip 20 #[true, true, true, true, true, true, true, true, true, true, true, true, true, true, true, true, true, true, true, true, true, false, false, false, false] rfl (by kernel_rfl) hF rfl rfl rfl (hM.pick [0, 1] rfl rfl) ?_; intro a hF
                refine h_skip 21 #[true, true, true, true, true, true, true, true, true, true, true, true, true, true, true, true, true, true, true, true, true, true, false, false, false] rfl (by kernel_rfl) hF rfl rfl rfl (hM.pick [0, 1] rfl rfl) ?_; intro a hF
                refine h_skip 22 #[true, true, true, true, true, true, true, true, true, true, true, true, true, true, true, true, true, true, true, true, true, true, true, false, false] rfl (by kernel_rfl) hF rfl rfl rfl (hM.pick [0, 1] rfl rfl) ?_; intro a hF
                refine h_skip 23 #[true, true, true, true, true, true, true, true, true, true, true, true, true, true, true, true, true, true, true, true, true, true, true, true, false] rfl (by kernel_rfl) hF rfl rfl rfl (hM.pick [0, 1] rfl rfl) ?_; intro a hF
                refine h_val 24 #[true, true, true, true, true, true, true, true, true, true, true, true, true, true, true, true, true, true, true, true, true, true, true, true, true] rfl (by kernel_rfl) hF rfl rfl rfl (fun w hS => e_pick_t hF rfl rfl) (hM.pick [0, 1] rfl rfl) ?_; intro a hF
                refine h_done rfl ?_
                refine then_n ?_
                refine s_cond_t hF rfl rfl ?_
                refine wp_exit ?_
                refine then_x ?_
                refine blk_x ?_
                refine then_n ?_
                refine s_region ?_
                refine s_val hF rfl rfl rfl (e_move hF rfl) ?_; intro a hF
                refine s_val hF rfl rfl rfl (e_add hF rfl rfl) ?_; intro a hF
                refine s_val hF rfl rfl rfl (e_assign hF rfl) ?_; intro a hF
                refine s_nil ?_
                refine then_n ?_
                exact ⟨v65, (wrap64 (x60 + 1)), x61, x62, x63, x64, x66, H, hF.sub _ ⟨rfl, rfl, rfl, rfl, trivial⟩, hM.pick [0, 1] rfl rfl⟩
            ·
              refine s_cond_f hF rfl (decide_eq_false c68) ?_
              refine wp_exit ?_
              refine then_x ?_
              refine then_x ?_
              exact ⟨rfl, v65, x61, x62, x63, x64, x66, some_some H, hF.sub _ trivial, hM.pick [0, 1] rfl rfl⟩
          ·
            refine s_region ?_
            refine s_val hF rfl rfl rfl (e_move hF rfl) ?_; intro a hF
            refine s_val hF rfl rfl rfl (e_move hF rfl) ?_; intro a hF
            refine s_val hF rfl rfl rfl (e_nilc hF rfl) ?_; intro a hF
            refine s_val hF rfl rfl rfl (e_fa hF rfl Try.underlying75 rfl Try.sizeOf3 rfl rfl) ?_; intro a hF
            refine s_val hF rfl rfl rfl (e_ld (i := 0) (k := 3) hF hM rfl rfl rfl rfl Try.isAgg3 rfl) ?_; intro a hF
            refine s_val hF rfl rfl rfl (e_leq hF rfl rfl) ?_; intro a hF
            refine s_val hF rfl rfl rfl (e_move hF rfl) ?_; intro a hF
            have hF := hF.topb (decide_eq_false c67)
            refine s_skip hF rfl rfl rfl ?_; intro a hF
            refine s_skip hF rfl rfl rfl ?_; intro a hF
            refine s_skip hF rfl rfl rfl ?_; intro a hF
            refine s_skip hF rfl rfl rfl ?_; intro a hF
            refine s_skip hF rfl rfl rfl ?_; intro a hF
            refine s_skip hF rfl rfl rfl ?_; intro a hF
            refine s_skip hF rfl rfl rfl ?_; intro a hF
            refine s_skip hF rfl rfl rfl ?_; intro a hF
            refine s_skip hF rfl rfl rfl ?_; intro a hF
            refine s_val hF rfl rfl rfl (e_pick_f hF rfl rfl) ?_; intro a hF
            refine s_nil ?_
            refine then_n ?_
            refine s_cond_f hF rfl rfl ?_
            refine wp_exit ?_
            refine then_x ?_
            refine then_x ?_
            exact ⟨rfl, v65, x61, x62, x63, x64, x66, some_some H, hF.sub _ trivial, hM.pick [0, 1] rfl rfl⟩
      · rintro e a w ⟨rfl, v58, x54, x55, x56, x57, x59, rfl, hF, hM⟩
        skip
        refine blk_x ?_
        obtain rfl := some_some H
        refine s_retn [] hF Try.results73 trivial ?_
        exact ⟨_, rfl, v58, hM.pick [0, 1] rfl rfl, rfl⟩
theorem impl_factors_grow__c1.rcalls (K : Nat) : ∀ (k : Nat) {w0 : World} {X : List Nat} (b1 : Nat) (y2 : (Ar 121)) (y3 : (Ar 31)) (y4 : (Ar 31)) (y5 : Int) (y6 : Int)  (v7 : Value) (y8 : (List ((Ar 6) × (Ar 6)))) (a1 : Int) (qM : Ms X w0 w0 [boxR b1 [Pt.ar y2, Pt.ar y3, Pt.ar y4, Pt.int y5, Pt.int y6, Pt.any v7] 75, rowR cd50 v7 y8]) (r : (Unit × ((Ar 31) × (Ar 31) × Int × Int × (List ((Ar 6) × (Ar 6)))))) (H : impl_factors_grow__c1.r K k y2 y3 y4 y5 y6 y8 a1 = some r), Calls Try.prog 73 [pt b1 0, Value.int .i64 a1].toArray w0 (fun e w => ∃ v, e = .returned v ∧ ∃ v78 : Value, Ms X w0 w [boxR b1 [Pt.ar y2, Pt.ar r.2.1, Pt.ar r.2.2.1, Pt.int r.2.2.2.1, Pt.int r.2.2.2.2.1, Pt.any v78] 75, rowR cd50 v78 r.2.2.2.2.2] ∧ Value.tuple #[] = v)
  | 0, _, _, _, _, _, _, _, _, _, _, _, _, r, H => none_some H
  | k + 1, _, _, b1, y2, y3, y4, y5, y6, v7, y8, a1, qM, r, H => impl_factors_grow__c1.step K (impl_factors_grow__c1.r K k) (impl_factors_grow__c1.rcalls K k) b1 y2 y3 y4 y5 y6 v7 y8 a1 qM r H
theorem impl_factors_grow__c1.calls {w0 : World} {X : List Nat} (K : Nat) (b1 : Nat) (y2 : (Ar 121)) (y3 : (Ar 31)) (y4 : (Ar 31)) (y5 : Int) (y6 : Int)  (v7 : Value) (y8 : (List ((Ar 6) × (Ar 6)))) (a1 : Int) (qM : Ms X w0 w0 [boxR b1 [Pt.ar y2, Pt.ar y3, Pt.ar y4, Pt.int y5, Pt.int y6, Pt.any v7] 75, rowR cd50 v7 y8]) (r : (Unit × ((Ar 31) × (Ar 31) × Int × Int × (List ((Ar 6) × (Ar 6)))))) (H : impl_factors_grow__c1.f K y2 y3 y4 y5 y6 y8 a1 = some r) : Calls Try.prog 73 [pt b1 0, Value.int .i64 a1].toArray w0 (fun e w => ∃ v, e = .returned v ∧ ∃ v78 : Value, Ms X w0 w [boxR b1 [Pt.ar y2, Pt.ar r.2.1, Pt.ar r.2.2.1, Pt.int r.2.2.2.1, Pt.int r.2.2.2.2.1, Pt.any v78] 75, rowR cd50 v78 r.2.2.2.2.2] ∧ Value.tuple #[] = v) := impl_factors_grow__c1.rcalls K K b1 y2 y3 y4 y5 y6 v7 y8 a1 qM r H

/-! ### cmp.Or[int]: function 77 -/
def cmp_Or_int.l0 (K : Nat) (l0 : (List Int)) : Nat → Int → Option (Sum Unit Int)
  | 0, _ => none
  | k + 1, x8 => if x8 < (l0.length : Int) then (if (0 : Int) ≤ x8 ∧ x8 < (l0.length : Int) then (if (l0.getD (x8 : Int).toNat (0 : Int)) = 0 then (cmp_Or_int.l0 K l0 k (wrap64 (x8 + 1))) else (some (Sum.inr (l0.getD (x8 : Int).toNat (0 : Int))))) else none) else (some (Sum.inl ()))
def cmp_Or_int.f (K : Nat) (l0 : (List Int)) : Option Int := (cmp_Or_int.l0 K l0 K 0).bind fun o12 => (match o12 with | .inl () => some 0 | .inr r14 => some r14)
set_option maxRecDepth 100000 in
set_option maxHeartbeats 4000000 in
theorem cmp_Or_int.calls {w0 : World} (K : Nat) (l0 : (List Int)) (u0 : Value) (q0 : SlR cd3 w0 u0 l0) (r : Int) (H : cmp_Or_int.f K l0 = some r) : Calls Try.prog 77 [u0].toArray w0 (Post w0 fun w v => v = Value.int .i64 r) := by
  rw [cmp_Or_int.f] at H
  refine s_start Try.func77 rfl Try.ntmps77 rfl ?_
  intro a hF
  have hM := Ms.start w0
  skip
  refine wp_seq ?_
  refine s_region ?_
  refine s_val hF rfl rfl rfl (e_assign hF rfl) ?_; intro a hF
  refine s_nil ?_
  refine then_n ?_
  refine wp_seq ?_
  refine s_region ?_
  refine s_val hF rfl rfl rfl (e_assign hF rfl) ?_; intro a hF
  refine s_nil ?_
  refine then_n ?_
  refine wp_seq ?_
  refine wp_seq ?_
  refine s_region ?_
  refine s_val hF rfl rfl rfl (e_move hF rfl) ?_; intro a hF
  refine s_val hF rfl rfl rfl (e_len hF rfl (q0.frm hM.frm).toF Try.underlying59) ?_; intro a hF
  refine s_val hF rfl rfl rfl (e_move hF rfl) ?_; intro a hF
  refine s_nil ?_
  refine then_n ?_
  refine wp_block ?_
  obtain ⟨o12, h13, H⟩ := bind_some H
  refine wp_mono (Q := fun e a w => (e = Exit.exit 0 ∧ Sum.inl () = o12 ∧ Fr 18 a [(3, Value.int .i64 0)] ∧ Ms [] w0 w []) ∨ (e = Exit.ret ∧ ∃ r14 : Int, Sum.inr r14 = o12 ∧ Fr 18 a [(2, Value.int .i64 r14)] ∧ Ms [] w0 w [])) ?_ ?_
  · refine s_loop (fun kq a w => ∃ x8 : Int, cmp_Or_int.l0 K l0 kq x8 = some o12 ∧ Fr 18 a [(3, Value.int .i64 0), (6, u0), (7, Value.int .i64 (l0.length : Int)), (8, Value.int .i64 x8)] ∧ Ms [] w0 w []) K ⟨0, h13, hF.sub _ ⟨rfl, rfl, rfl, rfl, trivial⟩, hM.pick [] rfl rfl⟩ ?_ ?_
    · rintro a w ⟨_, H, _⟩; exact none_some H
    · rintro k a w ⟨x8, H, hF, hM⟩; rw [cmp_Or_int.l0] at H
      refine wp_seq ?_
      refine s_region ?_
      refine s_val hF rfl rfl rfl (e_lss hF rfl rfl) ?_; intro a hF
      refine s_nil ?_
      refine then_n ?_
      refine wp_seq ?_
      rcases ite_cases H with ⟨c9, H⟩ | ⟨c9, H⟩
      ·
        refine s_cond_t hF rfl (decide_eq_true c9) ?_
        refine wp_skip ?_
        refine then_n ?_
        refine wp_seq ?_
        refine wp_block ?_
        refine wp_seq ?_
        obtain ⟨c10, H⟩ := ite_some H
        refine s_region ?_
        refine s_val hF rfl rfl rfl (e_ias cd3 hF rfl rfl (q0.frm hM.frm).toF Try.underlying59 Try.sizeOf3 c10.1 c10.2) ?_; intro a hF
        refine s_val hF rfl rfl rfl (e_lds (m := x8) hF rfl (q0.frm hM.frm) (getD_some (z := (0 : Int)) c10.1 c10.2) rfl rfl Try.isAgg3) ?_; intro a hF
        refine s_val hF rfl rfl rfl (e_assign hF rfl) ?_; intro a hF
        refine s_nil ?_
        refine then_n ?_
        refine wp_seq ?_
        refine s_region ?_
        refine s_val hF rfl rfl rfl (e_move hF rfl) ?_; intro a hF
        refine s_val hF rfl rfl rfl (e_move hF rfl) ?_; intro a hF
        refine s_val hF rfl rfl rfl (e_neq hF rfl rfl) ?_; intro a hF
        refine s_nil ?_
        refine then_n ?_
        rcases ite_cases H with ⟨c11, H⟩ | ⟨c11, H⟩
        ·
          refine s_cond_f hF rfl (congrArg Bool.not (decide_eq_true c11)) ?_
          refine wp_skip ?_
          refine blk_n ?_
          refine then_n ?_
          refine s_region ?_
          refine s_val hF rfl rfl rfl (e_add hF rfl rfl) ?_; intro a hF
          refine s_val hF rfl rfl rfl (e_move hF rfl) ?_; intro a hF
          refine s_nil ?_
          refine then_n ?_
          exact ⟨(wrap64 (x8 + 1)), H, hF.sub _ ⟨rfl, rfl, rfl, rfl, trivial⟩, hM.pick [] rfl rfl⟩
        ·
          refine s_cond_t hF rfl (congrArg Bool.not (decide_eq_false c11)) ?_
          refine wp_seq ?_
          refine s_region ?_
          refine s_val hF rfl rfl rfl (e_move hF rfl) ?_; intro a hF
          refine s_val hF rfl rfl rfl (e_assign hF rfl) ?_; intro a hF
          refine s_nil ?_
          refine then_n ?_
          refine wp_ret ?_
          refine blk_r ?_
          refine then_r ?_
          refine then_r ?_
          exact Or.inr (⟨rfl, (l0.getD (x8 : Int).toNat (0 : Int)), some_some H, hF.sub _ ⟨rfl, trivial⟩, hM.pick [] rfl rfl⟩)
      ·
        refine s_cond_f hF rfl (decide_eq_false c9) ?_
        refine wp_exit ?_
        refine then_x ?_
        refine then_x ?_
        exact Or.inl (⟨rfl, some_some H, hF.sub _ ⟨rfl, trivial⟩, hM.pick [] rfl rfl⟩)
  · rintro e a w (⟨rfl, rfl, hF, hM⟩ | ⟨rfl, r14, rfl, hF, hM⟩)
    ·
      dsimp only at H
      refine blk_x ?_
      refine then_n ?_
      refine wp_seq ?_
      refine s_region ?_
      refine s_val hF rfl rfl rfl (e_move hF rfl) ?_; intro a hF
      refine s_val hF rfl rfl rfl (e_assign hF rfl) ?_; intro a hF
      refine s_nil ?_
      refine then_n ?_
      refine wp_ret ?_
      obtain rfl := some_some H
      refine s_ret [Value.int .i64 0] hF Try.results77 ⟨rfl, trivial⟩ ?_
      exact ⟨_, rfl, hM.frm, rfl⟩
    ·
      dsimp only at H
      refine blk_r ?_
      refine then_r ?_
      obtain rfl := some_some H
      refine s_ret [Value.int .i64 r14] hF Try.results77 ⟨rfl, trivial⟩ ?_
      exact ⟨_, rfl, hM.frm, rfl⟩

/-! ### loop.example/g01210/impl.comparePairs: function 64 -/
def impl_comparePairs.f (K : Nat) (a0 : ((Ar 6) × (Ar 6))) (a1 : ((Ar 6) × (Ar 6))) : Option Int := (impl_compareDice.f K a0.1 a1.1).bind fun t3 => (impl_compareDice.f K a0.2 a1.2).bind fun t5 => (cmp_Or_int.f K [t3, t5]).bind fun t8 => some t8
set_option maxRecDepth 100000 in
set_option maxHeartbeats 4000000 in
theorem impl_comparePairs.calls {w0 : World} (K : Nat) (a0 : ((Ar 6) × (Ar 6))) (a1 : ((Ar 6) × (Ar 6))) (r : Int) (H : impl_comparePairs.f K a0 a1 = some r) : Calls Try.prog 64 [ag [Pt.ar a0.1, Pt.ar a0.2], ag [Pt.ar a1.1, Pt.ar a1.2]].toArray w0 (Post w0 fun w v => v = Value.int .i64 r) := by
  rw [impl_comparePairs.f] at H
  refine s_start Try.func64 rfl Try.ntmps64 rfl ?_
  intro a hF
  have hM := Ms.start w0
  skip
  refine wp_seq ?_
  refine s_region ?_
  refine s_box (ps := [Pt.ar a0.1, Pt.ar a0.2]) hF hM rfl rfl rfl rfl ?_; intro a w b1 hF hM
  refine s_box (ps := [Pt.ar a1.1, Pt.ar a1.2]) hF hM rfl rfl rfl rfl ?_; intro a w b2 hF hM
  refine s_val hF rfl rfl rfl (e_assign hF rfl) ?_; intro a hF
  refine s_nil ?_
  refine then_n ?_
  refine wp_seq ?_
  obtain ⟨t3, h4, H⟩ := bind_some H
  obtain ⟨t5, h6, H⟩ := bind_some H
  obtain ⟨t8, h9, H⟩ := bind_some H
  refine s_held (fun w => Ms [] w0 w [boxR b2 [Pt.ar a1.1, Pt.ar a1.2] 50, boxR b1 [Pt.ar a0.1, Pt.ar a0.2] 50]) #[false, false, false, false, false, false, false, false, false, false, false, false, false] mixed rfl rfl hM ?_; intro w hf hM; clear hf
  refine h_val 0 #[true, false, false, false, false, false, false, false, false, false, false, false, false] rfl (by kernel_rfl) hF rfl rfl rfl (fun w hS => e_fa hF rfl Try.underlying50 rfl Try.sizeOf31 rfl rfl) (hM.pick [0, 1] rfl rfl) ?_; intro a hF
  refine h_val 1 #[true, true, false, false, false, false, false, false, false, false, false, false, false] rfl (by kernel_rfl) hF rfl rfl rfl (fun w hS => e_lda (i := 1) 0 1 hF hS rfl rfl rfl rfl Try.isAgg31 Try.sizeOf31 rfl) (hM.pick [0, 1] rfl rfl) ?_; intro a hF
  refine h_val 2 #[true, true, true, false, false, false, false, false, false, false, false, false, false] rfl (by kernel_rfl) hF rfl rfl rfl (fun w hS => e_fa hF rfl Try.underlying50 rfl Try.sizeOf31 rfl rfl) (hM.pick [0, 1] rfl rfl) ?_; intro a hF
  refine h_val 3 #[true, true, true, true, false, false, false, false, false, false, false, false, false] rfl (by kernel_rfl) hF rfl rfl rfl (fun w hS => e_lda (i := 0) 0 1 hF hS rfl rfl rfl rfl Try.isAgg31 Try.sizeOf31 rfl) (hM.pick [0, 1] rfl rfl) ?_; intro a hF
  refine h_val 5 #[true, true, true, true, false, true, false, false, false, false, false, false, false] rfl (by kernel_rfl) hF rfl rfl rfl (fun w hS => e_fa hF rfl Try.underlying50 rfl Try.sizeOf31 rfl rfl) (hM.pick [0, 1] rfl rfl) ?_; intro a hF
  refine h_val 6 #[true, true, true, true, false, true, true, false, false, false, false, false, false] rfl (by kernel_rfl) hF rfl rfl rfl (fun w hS => e_lda (i := 1) 1 1 hF hS rfl rfl rfl rfl Try.isAgg31 Try.sizeOf31 rfl) (hM.pick [0, 1] rfl rfl) ?_; intro a hF
  refine h_val 7 #[true, true, true, true, false, true, true, true, false, false, false, false, false] rfl (by kernel_rfl) hF rfl rfl rfl (fun w hS => e_fa hF rfl Try.underlying50 rfl Try.sizeOf31 rfl rfl) (hM.pick [0, 1] rfl rfl) ?_; intro a hF
  refine h_val 8 #[true, true, true, true, false, true, true, true, true, false, false, false, false] rfl (by kernel_rfl) hF rfl rfl rfl (fun w hS => e_lda (i := 0) 1 1 hF hS rfl rfl rfl rfl Try.isAgg31 Try.sizeOf31 rfl) (hM.pick [0, 1] rfl rfl) ?_; intro a hF
  refine h_one 4 #[true, true, true, true, true, true, true, true, true, false, false, false, false] rfl (by kernel_rfl) ?_
  refine s_call hF rfl rfl rfl Try.call62 (impl_compareDice.calls K a0.1 a1.1 t3 h4) ?_; intro a w v hF hf hR
  subst hR; have hM := hM.grow hf
  refine s_nil ⟨rfl, (hM.pick [0, 1] rfl rfl), ?_⟩
  refine h_one 9 #[true, true, true, true, true, true, true, true, true, true, false, false, false] rfl (by kernel_rfl) ?_
  refine s_call hF rfl rfl rfl Try.call62 (impl_compareDice.calls K a0.2 a1.2 t5 h6) ?_; intro a w v hF hf hR
  subst hR; have hM := hM.grow hf
  refine s_nil ⟨rfl, (hM.pick [0, 1] rfl rfl), ?_⟩
  refine h_one 10 #[true, true, true, true, true, true, true, true, true, true, true, false, false] rfl (by kernel_rfl) ?_
  refine s_bsl (C := cd3) [t3, t5] cdok3 hF hM rfl rfl rfl rfl Try.underlying59 rfl ?_; intro a w v7 hF hM
  refine s_nil ⟨rfl, (hM.pick [1, 2] rfl rfl), ?_⟩
  refine h_one 11 #[true, true, true, true, true, true, true, true, true, true, true, true, false] rfl (by kernel_rfl) ?_
  refine s_call hF rfl rfl rfl Try.call77 (cmp_Or_int.calls K [t3, t5] v7 (hM.sl 0 rfl) t8 h9) ?_; intro a w v hF hf hR
  subst hR; have hM := hM.grow hf
  refine s_nil ⟨rfl, (hM.pick [1, 2] rfl rfl), ?_⟩
  refine h_val 12 #[true, true, true, true, true, true, true, true, true, true, true, true, true] rfl (by kernel_rfl) hF rfl rfl rfl (fun w hS => e_assign hF rfl) (hM.pick [1, 2] rfl rfl) ?_; intro a hF
  refine h_done rfl ?_
  refine then_n ?_
  refine wp_ret ?_
  obtain rfl := some_some H
  refine s_ret [Value.int .i64 t8] hF Try.results64 ⟨rfl, trivial⟩ ?_
  exact ⟨_, rfl, hM.frm, rfl⟩

/-! ### slices.Compact[[]loop.example/g01210/impl.Pair,loop.example/g01210/impl.Pair]: function 65 -/
def slices_Compact_impl_Pair_impl_Pair.l3 (K : Nat) (l0 : (List ((Ar 6) × (Ar 6)))) (x69 : Int) : Nat → Int → Int → (List ((Ar 6) × (Ar 6))) → Option (Int × (List ((Ar 6) × (Ar 6))))
  | 0, _, _, _ => none
  | k + 1, x92, x93, x94 => if (0 : Int) ≤ x69 ∧ x69 ≤ (l0.length : Int) ∧ (l0.length : Int) ≤ (x94.length : Int) then (if x93 < (((x94.take l0.length).drop (x69 : Int).toNat).length : Int) then (if (0 : Int) ≤ x93 ∧ x93 < (((x94.take l0.length).drop (x69 : Int).toNat).length : Int) then (if (0 : Int) ≤ (wrap64 (x93 - 1)) ∧ (wrap64 (x93 - 1)) < (((x94.take l0.length).drop (x69 : Int).toNat).length : Int) then (if (((x94.take l0.length).drop (x69 : Int).toNat).getD (x93 : Int).toNat ((Ar.zero 6), (Ar.zero 6))) = (((x94.take l0.length).drop (x69 : Int).toNat).getD ((wrap64 (x93 - 1)) : Int).toNat ((Ar.zero 6), (Ar.zero 6))) then (slices_Compact_impl_Pair_impl_Pair.l3 K l0 x69 k x92 (wrap64 (x93 + 1)) x94) else (if (0 : Int) ≤ x92 ∧ x92 < (x94.length : Int) then (slices_Compact_impl_Pair_impl_Pair.l3 K l0 x69 k (wrap64 (x92 + 1)) (wrap64 (x93 + 1)) (x94.set (x92 : Int).toNat (((x94.take l0.length).drop (x69 : Int).toNat).getD (x93 : Int).toNat ((Ar.zero 6), (Ar.zero 6))))) else none)) else none) else none) else (some (x92, x94))) else none
def slices_Compact_impl_Pair_impl_Pair.l2 (K : Nat) (l0 : (List ((Ar 6) × (Ar 6)))) : Nat → Int → Option (Sum Unit (List ((Ar 6) × (Ar 6))))
  | 0, _ => none
  | k + 1, x69 => if x69 < (l0.length : Int) then (if (0 : Int) ≤ x69 ∧ x69 < (l0.length : Int) then (if (0 : Int) ≤ (wrap64 (x69 - 1)) ∧ (wrap64 (x69 - 1)) < (l0.length : Int) then (if (l0.getD (x69 : Int).toNat ((Ar.zero 6), (Ar.zero 6))) = (l0.getD ((wrap64 (x69 - 1)) : Int).toNat ((Ar.zero 6), (Ar.zero 6))) then (if (0 : Int) ≤ x69 ∧ x69 ≤ (l0.length : Int) ∧ (l0.length : Int) ≤ (l0.length : Int) then ((slices_Compact_impl_Pair_impl_Pair.l3 K l0 x69 K x69 1 l0).bind fun (x90, x91) => if (0 : Int) ≤ x90 ∧ x90 ≤ (x91.length : Int) ∧ (x91.length : Int) ≤ (x91.length : Int) then (if (0 : Int) ≤ 0 ∧ (0 : Int) ≤ x90 ∧ x90 ≤ ((putAt x91 (x90 : Int).toNat (List.replicate (x91.length - (x90 : Int).toNat) ((Ar.zero 6), (Ar.zero 6)))).length : Int) then (some (Sum.inr (((putAt x91 (x90 : Int).toNat (List.replicate (x91.length - (x90 : Int).toNat) ((Ar.zero 6), (Ar.zero 6)))).take (x90 : Int).toNat).drop 0))) else none) else none) else none) else (slices_Compact_impl_Pair_impl_Pair.l2 K l0 k (wrap64 (x69 + 1)))) else none) else none) else (some (Sum.inl ()))
def slices_Compact_impl_Pair_impl_Pair.f (K : Nat) (l0 : (List ((Ar 6) × (Ar 6)))) : Option (List ((Ar 6) × (Ar 6))) := if (l0.length : Int) < 2 then (some l0) else ((slices_Compact_impl_Pair_impl_Pair.l2 K l0 K 1).bind fun o107 => (match o107 with | .inl () => some l0 | .inr r109 => some r109))
set_option maxRecDepth 100000 in
set_option maxHeartbeats 4000000 in
theorem slices_Compact_impl_Pair_impl_Pair.calls {w0 : World} {X : List Nat} (K : Nat) (l0 : (List ((Ar 6) × (Ar 6)))) (u0 : Value) (qM : Ms X w0 w0 [rowR cd50 u0 l0]) (r : (List ((Ar 6) × (Ar 6)))) (H : slices_Compact_impl_Pair_impl_Pair.f K l0 = some r) : Calls Try.prog 65 [u0].toArray w0 (fun e w => ∃ v, e = .returned v ∧ ∃ v111 : Value, Ms X w0 w [rowR cd50 v111 r] ∧ v111 = v) := by
  rw [slices_Compact_impl_Pair_impl_Pair.f] at H
  refine s_start Try.func65 rfl Try.ntmps65 rfl ?_
  intro a hF
  have hM := qM
  refine wp_seq ?_
  refine s_region ?_
  refine s_val hF rfl rfl rfl (e_assign hF rfl) ?_; intro a hF
  refine s_nil ?_
  refine then_n ?_
  refine wp_seq ?_
  refine wp_seq ?_
  refine s_region ?_
  refine s_val hF rfl rfl rfl (e_move hF rfl) ?_; intro a hF
  refine s_val hF rfl rfl rfl (e_len hF rfl (hM.sl 0 rfl).toF Try.underlying37) ?_; intro a hF
  refine s_val hF rfl rfl rfl (e_lss hF rfl rfl) ?_; intro a hF
  refine s_nil ?_
  refine then_n ?_
  rcases ite_cases H with ⟨c1, H⟩ | ⟨c1, H⟩
  ·
    refine s_cond_t hF rfl (decide_eq_true c1) ?_
    refine wp_seq ?_
    refine s_region ?_
    refine s_val hF rfl rfl rfl (e_move hF rfl) ?_; intro a hF
    refine s_val hF rfl rfl rfl (e_assign hF rfl) ?_; intro a hF
    refine s_nil ?_
    refine then_n ?_
    refine wp_ret ?_
    refine then_r ?_
    obtain rfl := some_some H
    refine s_ret [u0] hF Try.results65 ⟨rfl, trivial⟩ ?_
    exact ⟨_, rfl, u0, hM.pick [0] rfl rfl, rfl⟩
  ·
    refine s_cond_f hF rfl (decide_eq_false c1) ?_
    refine wp_skip ?_
    refine then_n ?_
    refine wp_seq ?_
    refine wp_seq ?_
    refine s_region ?_
    refine s_val hF rfl rfl rfl (e_assign hF rfl) ?_; intro a hF
    refine s_nil ?_
    refine then_n ?_
    refine wp_block ?_
    obtain ⟨o107, h108, H⟩ := bind_some H
    refine wp_mono (Q := fun e a w => (e = Exit.exit 0 ∧ Sum.inl () = o107 ∧ Fr 61 a [(0, u0)] ∧ Ms X w0 w [rowR cd50 u0 l0]) ∨ (e = Exit.ret ∧ ∃ v110 : Value, ∃ r109 : (List ((Ar 6) × (Ar 6))), Sum.inr r109 = o107 ∧ Fr 61 a [(2, v110)] ∧ Ms X w0 w [rowR cd50 v110 r109])) ?_ ?_
    · refine s_loop (fun kq a w => ∃ x69 : Int, slices_Compact_impl_Pair_impl_Pair.l2 K l0 kq x69 = some o107 ∧ Fr 61 a [(0, u0), (3, Value.int .i64 x69)] ∧ Ms X w0 w [rowR cd50 u0 l0]) K ⟨1, h108, hF.sub _ ⟨rfl, rfl, trivial⟩, hM.pick [0] rfl rfl⟩ ?_ ?_
      · rintro a w ⟨_, H, _⟩; exact none_some H
      · rintro k a w ⟨x69, H, hF, hM⟩; rw [slices_Compact_impl_Pair_impl_Pair.l2] at H
        refine wp_seq ?_
        refine wp_seq ?_
        refine s_region ?_
        refine s_val hF rfl rfl rfl (e_move hF rfl) ?_; intro a hF
        refine s_val hF rfl rfl rfl (e_move hF rfl) ?_; intro a hF
        refine s_val hF rfl rfl rfl (e_len hF rfl (hM.sl 0 rfl).toF Try.underlying37) ?_; intro a hF
        refine s_val hF rfl rfl rfl (e_lss hF rfl rfl) ?_; intro a hF
        refine s_nil ?_
        refine then_n ?_
        rcases ite_cases H with ⟨c70, H⟩ | ⟨c70, H⟩
        ·
          refine s_cond_t hF rfl (decide_eq_true c70) ?_
          refine wp_skip ?_
          refine then_n ?_
          refine wp_seq ?_
          refine wp_block ?_
          refine wp_seq ?_
          obtain ⟨c71, H⟩ := ite_some H
          obtain ⟨c72, H⟩ := ite_some H
          refine s_held (fun w => Ms X w0 w [rowR cd50 u0 l0]) #[false, false, false, false, false, false, false, false, false, false] mixed rfl rfl hM ?_; intro w hf hM; clear hf
          refine h_val 0 #[true, false, false, false, false, false, false, false, false, false] rfl (by kernel_rfl) hF rfl rfl rfl (fun w hS => e_move hF rfl) (hM.pick [0] rfl rfl) ?_; intro a hF
          refine h_val 1 #[true, true, false, false, false, false, false, false, false, false] rfl (by kernel_rfl) hF rfl rfl rfl (fun w hS => e_move hF rfl) (hM.pick [0] rfl rfl) ?_; intro a hF
          have f73 := (hM.sl 0 rfl).toF
          refine h_val 2 #[true, true, true, false, false, false, false, false, false, false] rfl (by kernel_rfl) hF rfl rfl rfl (fun w hS => e_ias cd50 hF rfl rfl f73 Try.underlying37 Try.sizeOf50 c71.1 c71.2) (hM.pick [0] rfl rfl) ?_; intro a hF
          refine h_val 3 #[true, true, true, true, false, false, false, false, false, false] rfl (by kernel_rfl) hF rfl rfl rfl (fun w hS => e_ldsa (m := x69) hF rfl (hS.sl 0 rfl) (getD_some (z := ((Ar.zero 6), (Ar.zero 6))) c71.1 c71.2) Try.isAgg50 Try.sizeOf50) (hM.pick [0] rfl rfl) ?_; intro a hF
          refine h_val 4 #[true, true, true, true, true, false, false, false, false, false] rfl (by kernel_rfl) hF rfl rfl rfl (fun w hS => e_move hF rfl) (hM.pick [0] rfl rfl) ?_; intro a hF
          refine h_val 5 #[true, true, true, true, true, true, false, false, false, false] rfl (by kernel_rfl) hF rfl rfl rfl (fun w hS => e_move hF rfl) (hM.pick [0] rfl rfl) ?_; intro a hF
          refine h_val 6 #[true, true, true, true, true, true, true, false, false, false] rfl (by kernel_rfl) hF rfl rfl rfl (fun w hS => e_sub hF rfl rfl) (hM.pick [0] rfl rfl) ?_; intro a hF
          have f74 := (hM.sl 0 rfl).toF
          refine h_val 7 #[true, true, true, true, true, true, true, true, false, false] rfl (by kernel_rfl) hF rfl rfl rfl (fun w hS => e_ias cd50 hF rfl rfl f74 Try.underlying37 Try.sizeOf50 c72.1 c72.2) (hM.pick [0] rfl rfl) ?_; intro a hF
          refine h_val 8 #[true, true, true, true, true, true, true, true, true, false] rfl (by kernel_rfl) hF rfl rfl rfl (fun w hS => e_ldsa (m := (wrap64 (x69 - 1))) hF rfl (hS.sl 0 rfl) (getD_some (z := ((Ar.zero 6), (Ar.zero 6))) c72.1 c72.2) Try.isAgg50 Try.sizeOf50) (hM.pick [0] rfl rfl) ?_; intro a hF
          refine h_val 9 #[true, true, true, true, true, true, true, true, true, true] rfl (by kernel_rfl) hF rfl rfl rfl (fun w hS => e_aggeq _ (run_eq2 (l0.getD (x69 : Int).toNat ((Ar.zero 6), (Ar.zero 6))) (l0.getD ((wrap64 (x69 - 1)) : Int).toNat ((Ar.zero 6), (Ar.zero 6))) Try.underlying50 Try.stoodInHeld50 (by decide) (by decide) rfl rfl rfl Try.underlying31 Try.underlying3 Try.sizeOf3 Try.isAgg3 Try.sizeOf31 Try.isAgg31) Try.eqGuardType50 hF rfl rfl) (hM.pick [0] rfl rfl) ?_; intro a hF
          refine h_done rfl ?_
          refine then_n ?_
          rcases ite_cases H with ⟨c75, H⟩ | ⟨c75, H⟩
          ·
            refine s_cond_t hF rfl (decide_eq_true c75) ?_
            refine wp_seq ?_
            obtain ⟨c76, H⟩ := ite_some H
            refine s_region ?_
            refine s_val hF rfl rfl rfl (e_move hF rfl) ?_; intro a hF
            refine s_val hF rfl rfl rfl (e_move hF rfl) ?_; intro a hF
            refine s_val hF rfl rfl rfl (e_sl_l hF rfl rfl (hM.sl 0 rfl).toF Try.underlying37 Try.sizeOf50 c76) ?_; intro a hF
            refine s_val hF rfl rfl rfl (e_assign hF rfl) ?_; intro a hF
            refine s_nil ?_
            refine then_n ?_
            refine wp_seq ?_
            refine wp_seq ?_
            refine s_region ?_
            refine s_val hF rfl rfl rfl (e_assign hF rfl) ?_; intro a hF
            refine s_nil ?_
            refine then_n ?_
            refine wp_block ?_
            obtain ⟨o103, h104, H⟩ := bind_some H
            refine wp_mono (Q := fun e a w => (e = Exit.exit 2 ∧ ∃ x90 : Int, ∃ x91 : (List ((Ar 6) × (Ar 6))), (x90, x91) = o103 ∧ Fr 61 a [(0, u0), (3, Value.int .i64 x90)] ∧ Ms X w0 w [rowR cd50 u0 x91])) ?_ ?_
            · refine s_loop (fun kq a w => ∃ x92 : Int, ∃ x93 : Int, ∃ x94 : (List ((Ar 6) × (Ar 6))), slices_Compact_impl_Pair_impl_Pair.l3 K l0 x69 kq x92 x93 x94 = some o103 ∧ Fr 61 a [(0, u0), (3, Value.int .i64 x92), (4, (subv u0 (x69 : Int).toNat l0.length 12)), (5, Value.int .i64 x93)] ∧ Ms X w0 w [rowR cd50 u0 x94]) K ⟨x69, 1, l0, h104, hF.sub _ ⟨rfl, rfl, rfl, rfl, trivial⟩, hM.pick [0] rfl rfl⟩ ?_ ?_
              · rintro a w ⟨_, _, _, H, _⟩; exact none_some H
              · rintro k a w ⟨x92, x93, x94, H, hF, hM⟩; rw [slices_Compact_impl_Pair_impl_Pair.l3] at H
                refine wp_seq ?_
                refine wp_seq ?_
                obtain ⟨c95, H⟩ := ite_some H
                refine s_region ?_
                refine s_val hF rfl rfl rfl (e_move hF rfl) ?_; intro a hF
                refine s_val hF rfl rfl rfl (e_move hF rfl) ?_; intro a hF
                refine s_val hF rfl rfl rfl (e_len hF rfl ((hM.sl 0 rfl).sub (x69 : Int).toNat l0.length (sl_lo_n' c95).1 (sl_lo_n' c95).2).toF Try.underlying37) ?_; intro a hF
                refine s_val hF rfl rfl rfl (e_lss hF rfl rfl) ?_; intro a hF
                refine s_nil ?_
                refine then_n ?_
                rcases ite_cases H with ⟨c96, H⟩ | ⟨c96, H⟩
                ·
                  refine s_cond_t hF rfl (decide_eq_true c96) ?_
                  refine wp_skip ?_
                  refine then_n ?_
                  refine wp_seq ?_
                  refine wp_block ?_
                  refine wp_seq ?_
                  obtain ⟨c97, H⟩ := ite_some H
                  obtain ⟨c98, H⟩ := ite_some H
                  refine s_held (fun w => Ms X w0 w [rowR cd50 u0 x94]) #[false, false, false, false, false, false, false, false, false, false] mixed rfl rfl hM ?_; intro w hf hM; clear hf
                  refine h_val 0 #[true, false, false, false, false, false, false, false, false, false] rfl (by kernel_rfl) hF rfl rfl rfl (fun w hS => e_move hF rfl) (hM.pick [0] rfl rfl) ?_; intro a hF
                  refine h_val 1 #[true, true, false, false, false, false, false, false, false, false] rfl (by kernel_rfl) hF rfl rfl rfl (fun w hS => e_move hF rfl) (hM.pick [0] rfl rfl) ?_; intro a hF
                  have f99 := ((hM.sl 0 rfl).sub (x69 : Int).toNat l0.length (sl_lo_n' c95).1 (sl_lo_n' c95).2).toF
                  refine h_val 2 #[true, true, true, false, false, false, false, false, false, false] rfl (by kernel_rfl) hF rfl rfl rfl (fun w hS => e_ias cd50 hF rfl rfl f99 Try.underlying37 Try.sizeOf50 c97.1 c97.2) (hM.pick [0] rfl rfl) ?_; intro a hF
                  refine h_val 3 #[true, true, true, true, false, false, false, false, false, false] rfl (by kernel_rfl) hF rfl rfl rfl (fun w hS => e_ldsa (m := x93) hF rfl ((hS.sl 0 rfl).sub (x69 : Int).toNat l0.length (sl_lo_n' c95).1 (sl_lo_n' c95).2) (getD_some (z := ((Ar.zero 6), (Ar.zero 6))) c97.1 c97.2) Try.isAgg50 Try.sizeOf50) (hM.pick [0] rfl rfl) ?_; intro a hF
                  refine h_val 4 #[true, true, true, true, true, false, false, false, false, false] rfl (by kernel_rfl) hF rfl rfl rfl (fun w hS => e_move hF rfl) (hM.pick [0] rfl rfl) ?_; intro a hF
                  refine h_val 5 #[true, true, true, true, true, true, false, false, false, false] rfl (by kernel_rfl) hF rfl rfl rfl (fun w hS => e_move hF rfl) (hM.pick [0] rfl rfl) ?_; intro a hF
                  refine h_val 6 #[true, true, true, true, true, true, true, false, false, false] rfl (by kernel_rfl) hF rfl rfl rfl (fun w hS => e_sub hF rfl rfl) (hM.pick [0] rfl rfl) ?_; intro a hF
                  have f100 := ((hM.sl 0 rfl).sub (x69 : Int).toNat l0.length (sl_lo_n' c95).1 (sl_lo_n' c95).2).toF
                  refine h_val 7 #[true, true, true, true, true, true, true, true, false, false] rfl (by kernel_rfl) hF rfl rfl rfl (fun w hS => e_ias cd50 hF rfl rfl f100 Try.underlying37 Try.sizeOf50 c98.1 c98.2) (hM.pick [0] rfl rfl) ?_; intro a hF
                  refine h_val 8 #[true, true, true, true, true, true, true, true, true, false] rfl (by kernel_rfl) hF rfl rfl rfl (fun w hS => e_ldsa (m := (wrap64 (x93 - 1))) hF rfl ((hS.sl 0 rfl).sub (x69 : Int).toNat l0.length (sl_lo_n' c95).1 (sl_lo_n' c95).2) (getD_some (z := ((Ar.zero 6), (Ar.zero 6))) c98.1 c98.2) Try.isAgg50 Try.sizeOf50) (hM.pick [0] rfl rfl) ?_; intro a hF
                  refine h_val 9 #[true, true, true, true, true, true, true, true, true, true] rfl (by kernel_rfl) hF rfl rfl rfl (fun w hS => e_aggne _ (run_eq2 (((x94.take l0.length).drop (x69 : Int).toNat).getD (x93 : Int).toNat ((Ar.zero 6), (Ar.zero 6))) (((x94.take l0.length).drop (x69 : Int).toNat).getD ((wrap64 (x93 - 1)) : Int).toNat ((Ar.zero 6), (Ar.zero 6))) Try.underlying50 Try.stoodInHeld50 (by decide) (by decide) rfl rfl rfl Try.underlying31 Try.underlying3 Try.sizeOf3 Try.isAgg3 Try.sizeOf31 Try.isAgg31) Try.eqGuardType50 hF rfl rfl) (hM.pick [0] rfl rfl) ?_; intro a hF
                  refine h_done rfl ?_
                  refine then_n ?_
                  rcases ite_cases H with ⟨c101, H⟩ | ⟨c101, H⟩
                  ·
                    refine s_cond_f hF rfl (congrArg Bool.not (decide_eq_true c101)) ?_
                    refine wp_skip ?_
                    refine blk_n ?_
                    refine then_n ?_
                    refine s_region ?_
                    refine s_val hF rfl rfl rfl (e_move hF rfl) ?_; intro a hF
                    refine s_val hF rfl rfl rfl (e_add hF rfl rfl) ?_; intro a hF
                    refine s_val hF rfl rfl rfl (e_assign hF rfl) ?_; intro a hF
                    refine s_nil ?_
                    refine then_n ?_
                    exact ⟨x92, (wrap64 (x93 + 1)), x94, H, hF.sub _ ⟨rfl, rfl, rfl, rfl, trivial⟩, hM.pick [0] rfl rfl⟩
                  ·
                    refine s_cond_t hF rfl (congrArg Bool.not (decide_eq_false c101)) ?_
                    refine wp_seq ?_
                    obtain ⟨c102, H⟩ := ite_some H
                    refine s_region ?_
                    refine s_val hF rfl rfl rfl (e_move hF rfl) ?_; intro a hF
                    refine s_val hF rfl rfl rfl (e_move hF rfl) ?_; intro a hF
                    refine s_val hF rfl rfl rfl (e_move hF rfl) ?_; intro a hF
                    refine s_val hF rfl rfl rfl (e_move hF rfl) ?_; intro a hF
                    refine s_val hF rfl rfl rfl (e_ias cd50 hF rfl rfl ((hM.sl 0 rfl).sub (x69 : Int).toNat l0.length (sl_lo_n' c95).1 (sl_lo_n' c95).2).toF Try.underlying37 Try.sizeOf50 c97.1 c97.2) ?_; intro a hF
                    refine s_val hF rfl rfl rfl (e_ldsa (m := x93) hF rfl ((hM.sl 0 rfl).sub (x69 : Int).toNat l0.length (sl_lo_n' c95).1 (sl_lo_n' c95).2) (getD_some (z := ((Ar.zero 6), (Ar.zero 6))) c97.1 c97.2) Try.isAgg50 Try.sizeOf50) ?_; intro a hF
                    refine s_val hF rfl rfl rfl (e_ias cd50 hF rfl rfl (hM.sl 0 rfl).toF Try.underlying37 Try.sizeOf50 c102.1 c102.2) ?_; intro a hF
                    refine s_sts (i := 0) (((x94.take l0.length).drop (x69 : Int).toNat).getD (x93 : Int).toNat ((Ar.zero 6), (Ar.zero 6))) hF hM rfl rfl rfl rfl rfl c102.1 c102.2 Try.sizeOf50 ?_; intro a w hF hM
                    refine s_nil ?_
                    refine then_n ?_
                    refine s_region ?_
                    refine s_val hF rfl rfl rfl (e_move hF rfl) ?_; intro a hF
                    refine s_val hF rfl rfl rfl (e_add hF rfl rfl) ?_; intro a hF
                    refine s_val hF rfl rfl rfl (e_assign hF rfl) ?_; intro a hF
                    refine s_nil ?_
                    refine blk_n ?_
                    refine then_n ?_
                    refine s_region ?_
                    refine s_val hF rfl rfl rfl (e_move hF rfl) ?_; intro a hF
                    refine s_val hF rfl rfl rfl (e_add hF rfl rfl) ?_; intro a hF
                    refine s_val hF rfl rfl rfl (e_assign hF rfl) ?_; intro a hF
                    refine s_nil ?_
                    refine then_n ?_
                    exact ⟨(wrap64 (x92 + 1)), (wrap64 (x93 + 1)), (x94.set (x92 : Int).toNat (((x94.take l0.length).drop (x69 : Int).toNat).getD (x93 : Int).toNat ((Ar.zero 6), (Ar.zero 6)))), H, hF.sub _ ⟨rfl, rfl, rfl, rfl, trivial⟩, hM.pick [0] rfl rfl⟩
                ·
                  refine s_cond_f hF rfl (decide_eq_false c96) ?_
                  refine wp_exit ?_
                  refine then_x ?_
                  refine then_x ?_
                  exact ⟨rfl, x92, x94, some_some H, hF.sub _ ⟨rfl, rfl, trivial⟩, hM.pick [0] rfl rfl⟩
            · rintro e a w ⟨rfl, x90, x91, rfl, hF, hM⟩
              skip
              refine blk_x ?_
              refine then_n ?_
              refine wp_seq ?_
              obtain ⟨c105, H⟩ := ite_some H
              refine s_region ?_
              refine s_val hF rfl rfl rfl (e_move hF rfl) ?_; intro a hF
              refine s_val hF rfl rfl rfl (e_move hF rfl) ?_; intro a hF
              refine s_val hF rfl rfl rfl (e_sl_l hF rfl rfl (hM.sl 0 rfl).toF Try.underlying37 Try.sizeOf50 c105) ?_; intro a hF
              refine s_clear (i := 0) (lo := (x90 : Int).toNat) (hi := x91.length) cdok50 hF hM rfl rfl rfl ⟨(sl_lo_n' c105).1, (sl_lo_n' c105).2⟩ Try.underlying37 ?_; intro a w hF hM
              refine s_nil ?_
              refine then_n ?_
              refine wp_seq ?_
              obtain ⟨c106, H⟩ := ite_some H
              refine s_region ?_
              refine s_val hF rfl rfl rfl (e_move hF rfl) ?_; intro a hF
              refine s_val hF rfl rfl rfl (e_move hF rfl) ?_; intro a hF
              refine s_val hF rfl rfl rfl (e_sl_h hF rfl rfl (hM.sl 0 rfl).toF Try.underlying37 Try.sizeOf50 c106) ?_; intro a hF
              refine s_val hF rfl rfl rfl (e_assign hF rfl) ?_; intro a hF
              refine s_nil ?_
              refine then_n ?_
              refine wp_ret ?_
              refine blk_r ?_
              refine then_r ?_
              have hM := hM.cut 0 (x90 : Int).toNat rfl (sl_0_i' c106).2
              refine then_r ?_
              exact Or.inr (⟨rfl, (subv u0 0 (x90 : Int).toNat 12), (((putAt x91 (x90 : Int).toNat (List.replicate (x91.length - (x90 : Int).toNat) ((Ar.zero 6), (Ar.zero 6)))).take (x90 : Int).toNat).drop 0), some_some H, hF.sub _ ⟨rfl, trivial⟩, hM.pick [0] rfl rfl⟩)
          ·
            refine s_cond_f hF rfl (decide_eq_false c75) ?_
            refine wp_skip ?_
            refine blk_n ?_
            refine then_n ?_
            refine s_region ?_
            refine s_val hF rfl rfl rfl (e_move hF rfl) ?_; intro a hF
            refine s_val hF rfl rfl rfl (e_add hF rfl rfl) ?_; intro a hF
            refine s_val hF rfl rfl rfl (e_assign hF rfl) ?_; intro a hF
            refine s_nil ?_
            refine then_n ?_
            exact ⟨(wrap64 (x69 + 1)), H, hF.sub _ ⟨rfl, rfl, trivial⟩, hM.pick [0] rfl rfl⟩
        ·
          refine s_cond_f hF rfl (decide_eq_false c70) ?_
          refine wp_exit ?_
          refine then_x ?_
          refine then_x ?_
          exact Or.inl (⟨rfl, some_some H, hF.sub _ ⟨rfl, trivial⟩, hM.pick [0] rfl rfl⟩)
    · rintro e a w (⟨rfl, rfl, hF, hM⟩ | ⟨rfl, v110, r109, rfl, hF, hM⟩)
      ·
        dsimp only at H
        refine blk_x ?_
        refine then_n ?_
        refine wp_seq ?_
        refine s_region ?_
        refine s_val hF rfl rfl rfl (e_move hF rfl) ?_; intro a hF
        refine s_val hF rfl rfl rfl (e_assign hF rfl) ?_; intro a hF
        refine s_nil ?_
        refine then_n ?_
        refine wp_ret ?_
        obtain rfl := some_some H
        refine s_ret [u0] hF Try.results65 ⟨rfl, trivial⟩ ?_
        exact ⟨_, rfl, u0, hM.pick [0] rfl rfl, rfl⟩
      ·
        dsimp only at H
        refine blk_r ?_
        refine then_r ?_
        obtain rfl := some_some H
        refine s_ret [v110] hF Try.results65 ⟨rfl, trivial⟩ ?_
        exact ⟨_, rfl, v110, hM.pick [0] rfl rfl, rfl⟩

def sortPair_ren : Go.Shelf.Ren := ⟨fun | 6 => 63 | 15 => 76 | 14 => 75 | 28 => 92 | 29 => 93 | 20 => 84 | 21 => 85 | 22 => 86 | 23 => 87 | 24 => 88 | 25 => 89 | 26 => 90 | 27 => 91 | 46 => 94 | 47 => 95 | 48 => 96 | 49 => 97 | 50 => 98 | 57 => 99 | n => n, fun | 22 => 37 | 24 => 50 | 25 => 68 | 3 => 3 | 39 => 80 | 0 => 0 | 53 => 94 | 55 => 96 | 4 => 4 | 46 => 87 | 45 => 86 | 50 => 91 | 5 => 5 | 9 => 9 | 66 => 97 | 70 => 101 | 76 => 103 | 77 => 63 | n => n, fun | n => n⟩
theorem sortPair : Go.Proofs.SlLaysF0.n6 Try.prog sortPair_ren where
  mixed := by kernel_rfl
  f6 := ⟨ "slices.SortFunc[[]loop.example/g01210/impl.Pair,loop.example/g01210/impl.Pair]", by decide, Try.func63.trans (congrArg some (by kernel_rfl))⟩
  f14 := ⟨ "slices.pdqsortCmpFunc[loop.example/g01210/impl.Pair]", by decide, Try.func75.trans (congrArg some (by kernel_rfl))⟩
  f15 := Try.func76.trans (congrArg some (by kernel_rfl))
  f20 := ⟨ "slices.insertionSortCmpFunc[loop.example/g01210/impl.Pair]", by decide, Try.func84.trans (congrArg some (by kernel_rfl))⟩
  f21 := ⟨ "slices.heapSortCmpFunc[loop.example/g01210/impl.Pair]", by decide, Try.func85.trans (congrArg some (by kernel_rfl))⟩
  f22 := ⟨ "slices.breakPatternsCmpFunc[loop.example/g01210/impl.Pair]", by decide, Try.func86.trans (congrArg some (by kernel_rfl))⟩
  f23 := ⟨ "slices.choosePivotCmpFunc[loop.example/g01210/impl.Pair]", by decide, Try.func87.trans (congrArg some (by kernel_rfl))⟩
  f24 := ⟨ "slices.reverseRangeCmpFunc[loop.example/g01210/impl.Pair]", by decide, Try.func88.trans (congrArg some (by kernel_rfl))⟩
  f25 := ⟨ "slices.partialInsertionSortCmpFunc[loop.example/g01210/impl.Pair]", by decide, Try.func89.trans (congrArg some (by kernel_rfl))⟩
  f26 := ⟨ "slices.partitionEqualCmpFunc[loop.example/g01210/impl.Pair]", by decide, Try.func90.trans (congrArg some (by kernel_rfl))⟩
  f27 := ⟨ "slices.partitionCmpFunc[loop.example/g01210/impl.Pair]", by decide, Try.func91.trans (congrArg some (by kernel_rfl))⟩
  f28 := Try.func92.trans (congrArg some (by kernel_rfl))
  f29 := Try.func93.trans (congrArg some (by kernel_rfl))
  f46 := ⟨ "slices.siftDownCmpFunc[loop.example/g01210/impl.Pair]", by decide, Try.func94.trans (congrArg some (by kernel_rfl))⟩
  f47 := Try.func95.trans (congrArg some (by kernel_rfl))
  f48 := Try.func96.trans (congrArg some (by kernel_rfl))
  f49 := ⟨ "slices.medianAdjacentCmpFunc[loop.example/g01210/impl.Pair]", by decide, Try.func97.trans (congrArg some (by kernel_rfl))⟩
  f50 := ⟨ "slices.medianCmpFunc[loop.example/g01210/impl.Pair]", by decide, Try.func98.trans (congrArg some (by kernel_rfl))⟩
  f57 := ⟨ "slices.order2CmpFunc[loop.example/g01210/impl.Pair]", by decide, Try.func99.trans (congrArg some (by kernel_rfl))⟩
  t0 := Try.underlying0
  a0 := Try.isAgg0
  z0 := Try.sizeOf0
  v0 := Try.zeroValue0
  t3 := Try.underlying3
  a3 := Try.isAgg3
  z3 := Try.sizeOf3
  v3 := Try.zeroValue3
  t4 := Try.underlying4
  a4 := Try.isAgg4
  z4 := Try.sizeOf4
  v4 := Try.zeroValue4
  t5 := Try.underlying5
  a5 := Try.isAgg5
  z5 := Try.sizeOf5
  v5 := Try.zeroValue5
  t9 := Try.underlying9
  a9 := Try.isAgg9
  z9 := Try.sizeOf9
  v9 := Try.zeroValue9
  t22 := Try.underlying37
  a22 := Try.isAgg37
  z22 := Try.sizeOf37
  v22 := Try.zeroValue37
  t25 := Try.underlying68
  a25 := Try.isAgg68
  z25 := Try.sizeOf68
  v25 := Try.zeroValue68
  t39 := Try.underlying80
  a39 := Try.isAgg80
  z39 := Try.sizeOf80
  v39 := Try.zeroValue80
  t45 := Try.underlying86
  a45 := Try.isAgg86
  z45 := Try.sizeOf86
  v45 := Try.zeroValue86
  t46 := Try.underlying87
  a46 := Try.isAgg87
  z46 := Try.sizeOf87
  v46 := Try.zeroValue87
  t50 := Try.underlying91
  a50 := Try.isAgg91
  z50 := Try.sizeOf91
  v50 := Try.zeroValue91
  t53 := Try.underlying94
  a53 := Try.isAgg94
  z53 := Try.sizeOf94
  v53 := Try.zeroValue94
  t55 := Try.underlying96
  a55 := Try.isAgg96
  z55 := Try.sizeOf96
  v55 := Try.zeroValue96
  t66 := Try.underlying97
  a66 := Try.isAgg97
  z66 := Try.sizeOf97
  v66 := Try.zeroValue97
  t70 := Try.underlying101
  a70 := Try.isAgg101
  z70 := Try.sizeOf101
  v70 := Try.zeroValue101
  t76 := Try.underlying103
  a76 := Try.isAgg103
  z76 := Try.sizeOf103
  v76 := Try.zeroValue103
  t77 := Try.underlying63
  a77 := Try.isAgg63
  z77 := Try.sizeOf63
  v77 := Try.zeroValue63

/-! ### loop.example/g01210/impl.sorted: function 48 -/
instance : Inhabited (Ar 6 × Ar 6) := ⟨(Ar.zero 6, Ar.zero 6)⟩
/-- The order of lists of one length: less than 0, 0 or more. -/
def lexC : List Int → List Int → Int
  | a :: l, b :: m => if a < b then -1 else if b < a then 1 else lexC l m
  | _, _ => 0
def pairC (x y : Ar 6 × Ar 6) : Int := lexC (x.1.l ++ x.2.l) (y.1.l ++ y.2.l)
theorem lexC_zero : ∀ {l m : List Int}, l.length = m.length → lexC l m = 0 → l = m
  | [], [], _, _ => rfl
  | a :: l, b :: m, h, e => by
    rw [lexC] at e
    split at e
    · cases e
    · split at e
      · cases e
      · have h1 : a = b := by omega
        rw [h1, lexC_zero (by simpa using h) e]
theorem lexC_self : ∀ l : List Int, lexC l l = 0
  | [] => rfl
  | a :: l => by rw [lexC, if_neg (by omega), if_neg (by omega)]; exact lexC_self l
theorem lexC_neg : ∀ {l m : List Int}, l.length = m.length → lexC m l = - lexC l m
  | [], [], _ => rfl
  | a :: l, b :: m, h => by
    have ih := lexC_neg (l := l) (m := m) (by simpa using h)
    rw [lexC, lexC]
    by_cases h1 : a < b
    · rw [if_neg (by omega), if_pos h1, if_pos h1]; rfl
    · by_cases h2 : b < a
      · rw [if_pos h2, if_neg h1, if_pos h2]
      · rw [if_neg h2, if_neg h1, if_neg h1, if_neg h2, ih]
theorem lexC_trans : ∀ {l m n : List Int}, l.length = m.length → m.length = n.length → lexC l m ≤ 0 → lexC m n ≤ 0 → lexC l n ≤ 0 ∧ (lexC l n = 0 → lexC l m = 0 ∧ lexC m n = 0)
  | [], [], [], _, _, _, _ => ⟨Int.le_refl _, fun _ => ⟨rfl, rfl⟩⟩
  | a :: l, b :: m, c :: n, h1, h2, e1, e2 => by
    have ih := lexC_trans (l := l) (m := m) (n := n) (by simpa using h1) (by simpa using h2)
    rw [lexC] at e1 e2 ⊢
    rw [lexC, lexC]
    by_cases a1 : a < b
    · by_cases b1 : b < c
      · rw [if_pos (by omega)]; exact ⟨by decide, fun h => by cases h⟩
      · by_cases b2 : c < b
        · rw [if_neg b1, if_pos b2] at e2; exact absurd e2 (by decide)
        · rw [if_pos (by omega)]; exact ⟨by decide, fun h => by cases h⟩
    · by_cases a2 : b < a
      · rw [if_neg a1, if_pos a2] at e1; exact absurd e1 (by decide)
      · rw [if_neg a1, if_neg a2] at e1 ⊢
        by_cases b1 : b < c
        · rw [if_pos (by omega)]; exact ⟨by decide, fun h => by cases h⟩
        · by_cases b2 : c < b
          · rw [if_neg b1, if_pos b2] at e2; exact absurd e2 (by decide)
          · rw [if_neg b1, if_neg b2] at e2 ⊢
            rw [if_neg (by omega), if_neg (by omega)]
            exact ih e1 e2
theorem pairC_len (x : Ar 6 × Ar 6) : (x.1.l ++ x.2.l).length = 12 := by rw [List.length_append, x.1.h, x.2.h]
theorem pairC_zero {x y : Ar 6 × Ar 6} (h : pairC x y = 0) : x = y := by
  have h1 := lexC_zero (by rw [pairC_len, pairC_len]) h
  have h2 := List.append_inj h1 (by rw [x.1.h, y.1.h])
  obtain ⟨⟨a, ha⟩, ⟨b, hb⟩⟩ := x
  obtain ⟨⟨c, hc⟩, ⟨d, hd⟩⟩ := y
  obtain ⟨rfl, rfl⟩ := h2
  rfl
theorem pairC_neg (x y : Ar 6 × Ar 6) : pairC y x = - pairC x y := lexC_neg (by rw [pairC_len, pairC_len])
theorem pairC_trans {x y z : Ar 6 × Ar 6} (h1 : pairC x y ≤ 0) (h2 : pairC y z ≤ 0) : pairC x z ≤ 0 ∧ (pairC x z = 0 → pairC x y = 0 ∧ pairC y z = 0) := lexC_trans (by rw [pairC_len, pairC_len]) (by rw [pairC_len, pairC_len]) h1 h2
theorem pairC_swo : Go.Sort.SWO (Go.Proofs.ltOf pairC) where
  irrefl x := by
    have : pairC x x = 0 := lexC_self _
    simp [Go.Proofs.ltOf, this]
  trans x y z h1 h2 := by
    simp only [Go.Proofs.ltOf, decide_eq_true_eq] at h1 h2 ⊢
    have := pairC_trans (x := x) (y := y) (z := z) (by omega) (by omega)
    by_cases h : pairC x z = 0
    · have := this.2 h; omega
    · omega
  ntrans x y z h1 h2 := by
    simp only [Go.Proofs.ltOf, decide_eq_false_iff_not] at h1 h2 ⊢
    have e1 := pairC_neg x y
    have e2 := pairC_neg y z
    have e3 := pairC_neg x z
    have := pairC_trans (x := z) (y := y) (z := x) (by omega) (by omega)
    omega
/-- Pairs in order. -/
def sortP (l : List (Ar 6 × Ar 6)) : List (Ar 6 × Ar 6) := l.mergeSort fun x y => decide (pairC x y ≤ 0)
theorem sortP_perm (l : List (Ar 6 × Ar 6)) : (sortP l).Perm l := List.mergeSort_perm l _
theorem sortP_sorted (l : List (Ar 6 × Ar 6)) : (sortP l).Pairwise (fun x y => pairC x y ≤ 0) := by
  have h := List.pairwise_mergeSort (le := fun x y : Ar 6 × Ar 6 => decide (pairC x y ≤ 0)) (fun a b c h1 h2 => by
    simp only [decide_eq_true_eq] at h1 h2 ⊢
    exact (pairC_trans h1 h2).1) (fun a b => by
    have := pairC_neg a b
    simp only [Bool.or_eq_true, decide_eq_true_eq]
    omega) l
  exact h.imp fun h => by simpa using h
theorem lexC_append {l m p q : List Int} (h : l.length = m.length) : lexC (l ++ p) (m ++ q) = if lexC l m ≠ 0 then lexC l m else lexC p q := by
  induction l generalizing m with
  | nil =>
    cases m with
    | nil => rfl
    | cons b m => cases h
  | cons a l ih =>
    cases m with
    | nil => cases h
    | cons b m =>
      have ih := ih (m := m) (by simpa using h)
      rw [List.cons_append, List.cons_append, lexC, lexC]
      by_cases h1 : a < b
      · rw [if_pos h1, if_pos h1]; rfl
      · by_cases h2 : b < a
        · rw [if_neg h1, if_pos h2, if_neg h1, if_pos h2]; rfl
        · rw [if_neg h1, if_neg h2, if_neg h1, if_neg h2, ih]
theorem compare_l0 (K : Nat) (l m : List Int) (hl : l.length = 6) (hm : m.length = 6) : ∀ (k n : Nat), n ≤ 6 → 6 - n < k → slices_Compare_int_int.l0 K l m k (n : Int) = some (if lexC (l.drop n) (m.drop n) = 0 then Sum.inl () else Sum.inr (lexC (l.drop n) (m.drop n))) := by
  intro k
  induction k with
  | zero => intro n h1 h2; omega
  | succ k ih =>
    intro n h1 h2
    rw [slices_Compare_int_int.l0, hl, hm]
    by_cases hn : n < 6
    · have d1 : l.drop n = l[n] :: l.drop (n + 1) := List.drop_eq_getElem_cons (by omega)
      have d2 : m.drop n = m[n] :: m.drop (n + 1) := List.drop_eq_getElem_cons (by omega)
      have g1 : l.getD n 0 = l[n] := getD_nat _ _ _ (by omega)
      have g2 : m.getD n 0 = m[n] := getD_nat _ _ _ (by omega)
      have c1 : (n : Int) < ((6 : Nat) : Int) := by omega
      have c2 : (0 : Int) ≤ (n : Int) ∧ (n : Int) < ((6 : Nat) : Int) := by omega
      have c3 : ¬ ((6 : Nat) : Int) ≤ (n : Int) := by omega
      have ih' := ih (n + 1) (by omega) (by omega)
      rw [if_pos c1, if_pos c2, if_neg c3, if_pos c2, Int.toNat_natCast, g1, g2, w1' n (by omega), d1, d2, lexC]
      unfold cmp_Compare_int.f cmp_isNaN_int.f
      simp only [decide_true, Bool.not_true, some_bind, Bool.false_eq_true, if_false]
      by_cases h3 : l[n] < m[n]
      · rw [if_pos h3, if_pos h3, some_bind, if_neg (by decide)]; rfl
      · by_cases h4 : m[n] < l[n]
        · rw [if_neg h3, if_pos h4, if_neg h3, if_pos h4, some_bind, if_neg (by decide)]; rfl
        · rw [if_neg h3, if_neg h4, if_neg h3, if_neg h4, some_bind, if_pos rfl]
          exact ih'
    · have : n = 6 := by omega
      subst this
      rw [if_neg (by omega), List.drop_of_length_le (by omega), List.drop_of_length_le (by omega)]
      rfl
theorem compareDice_eq (K : Nat) (hK : 100 ≤ K) (a b : Ar 6) : impl_compareDice.f K a b = some (lexC a.l b.l) := by
  unfold impl_compareDice.f slices_Compare_int_int.f
  have h := compare_l0 K a.l b.l a.h b.h K 0 (by omega) (by omega)
  rw [show slices_Compare_int_int.l0 K a.l b.l K 0 = _ from h]
  simp only [some_bind, List.drop_zero]
  by_cases hc : lexC a.l b.l = 0
  · rw [if_pos hc]
    simp only [a.h, b.h]
    rw [if_neg (by omega), some_bind, hc]
  · rw [if_neg hc]
    rfl
theorem comparePairs_eq (K : Nat) (hK : 100 ≤ K) (x y : Ar 6 × Ar 6) : impl_comparePairs.f K x y = some (pairC x y) := by
  unfold impl_comparePairs.f
  rw [compareDice_eq K hK, compareDice_eq K hK, some_bind, some_bind]
  unfold pairC
  rw [lexC_append (by rw [x.1.h, y.1.h])]
  generalize lexC x.1.l y.1.l = p
  generalize lexC x.2.l y.2.l = q
  obtain ⟨k, rfl⟩ : ∃ k, K = k + 3 := ⟨K - 3, by omega⟩
  unfold cmp_Or_int.f
  rw [cmp_Or_int.l0, if_pos (by simp), if_pos (by simp)]
  by_cases hp : p = 0
  · subst hp
    rw [if_pos (by simp), cmp_Or_int.l0, show wrap64 (0 + 1) = 1 from w64 (n := 0 + 1) (by omega) (by omega), if_pos (by simp), if_pos (by simp)]
    by_cases hq : q = 0
    · subst hq
      rw [if_pos (by simp), cmp_Or_int.l0, show wrap64 (1 + 1) = 2 from w64 (n := 1 + 1) (by omega) (by omega), if_neg (by simp)]
      rfl
    · rw [if_neg (by simpa using hq)]
      simp
  · rw [if_neg (by simpa using hp)]
    simp [hp]
def impl_sorted.f (K : Nat) (l0 : (List ((Ar 6) × (Ar 6)))) : Option (List ((Ar 6) × (Ar 6))) := if 100 ≤ K ∧ l0 ≠ [] ∧ l0.length ≤ 1000000000 then slices_Compact_impl_Pair_impl_Pair.f K (sortP l0) else none
set_option maxRecDepth 100000 in
set_option maxHeartbeats 4000000 in
theorem sort_calls {w0 : World} {X : List Nat} (l0 : (List ((Ar 6) × (Ar 6)))) (u0 : Value) (qM : Ms X w0 w0 [rowR cd50 u0 l0]) (hne : l0 ≠ []) (hlen : l0.length ≤ 1000000000) : Calls Try.prog 63 [u0, Value.func (.func 64) #[] #[]].toArray w0 (fun e w => e = .returned (.tuple #[]) ∧ Ms X w0 w [rowR cd50 u0 (sortP l0)]) := by
  have hR := qM.get 0 rfl
  have hh : w0.ownsRow 0 cd50.T cd50.s u0 l0.length (cd50.cells l0) := hR
  obtain ⟨b, cap, rfl⟩ : ∃ b cap, u0 = .slice (some ⟨b, 0, none⟩) l0.length cap := by
    rcases hh.2 with ⟨h0, h1⟩ | ⟨b', cap', cur, hv, _⟩
    · exact absurd (List.eq_nil_of_length_eq_zero (by simpa using h1)) hne
    · exact ⟨b', cap', hv⟩
  obtain ⟨hH, hb⟩ := holds_row cd50 hR
  have hcon := Go.Proofs.AnyQ.slices_SortFunc sortPair 12 Try.isAgg50 Try.sizeOf50 (encC cd50) (fun x => encC_len cd50 x) (fun x v hv => cat_one _ v hv) pairC pairC_swo 64 #[] b 0 cap l0.toArray w0 Try.call64 (by
    intro m os dk hdk x y
    refine (impl_comparePairs.calls 100 x y (pairC x y) (comparePairs_eq 100 (Nat.le_refl _) x y)).mono ?_
    rintro e w' ⟨v, rfl, hf, rfl⟩
    exact ⟨rfl, grown_of_frm hf⟩) hH hb (by simp; omega)
  refine hcon.mono ?_
  rintro e w' ⟨rfl, d', n, os, hp, hs, rfl⟩
  have hsz : d'.size = l0.length := by have := hp.1; simpa using this
  have hperm : d'.toList.Perm l0 := by
    have h := hp.2.2
    simp only [List.size_toArray] at h
    rw [show d'.extract 0 l0.length = d' by rw [← hsz]; simp] at h
    simpa using h
  have hsort : d'.toList.Pairwise (fun x y => ¬ pairC y x < 0) := by
    rw [List.pairwise_iff_getElem]
    intro i j hi hj hij
    have h := hs i j (Nat.zero_le _) hij (by simp only [List.size_toArray]; simpa [hsz] using hj)
    simp only [Array.length_toList] at hi hj
    rw [getElem!_pos d' j hj, getElem!_pos d' i hi] at h
    simpa [Go.Proofs.ltOf] using h
  have he : d'.toList = sortP l0 := by
    refine perm_sorted_eq (lt := fun x y => pairC x y < 0) (fun x y h1 h2 => ?_) (hperm.trans (sortP_perm l0).symm) hsort ((sortP_sorted l0).imp fun {x y} h => ?_)
    · have := pairC_neg x y
      exact pairC_zero (by omega)
    · have := pairC_neg x y
      omega
  have hd : d' = (sortP l0).toArray := by rw [← he]
  subst hd
  have hl := (sortP_perm l0).length_eq
  refine ⟨rfl, ?_⟩
  have := qM.turn (i := 0) (R' := rowR cd50 (.slice (some ⟨b, 0, none⟩) l0.length cap) (sortP l0)) rfl (by
    have hf := frm_sortWorld cd50 w0 b n (sortP l0).toArray os
    exact hf) (row_sorted cd50 hR hl) (fun c hc => .inl hc)
  exact this
set_option maxRecDepth 100000 in
set_option maxHeartbeats 4000000 in
theorem impl_sorted.calls {w0 : World} {X : List Nat} (K : Nat) (l0 : (List ((Ar 6) × (Ar 6)))) (u0 : Value) (qM : Ms X w0 w0 [rowR cd50 u0 l0]) (r : (List ((Ar 6) × (Ar 6)))) (H : impl_sorted.f K l0 = some r) : Calls Try.prog 48 [u0].toArray w0 (fun e w => ∃ v, e = .returned v ∧ ∃ v111 : Value, Ms X w0 w [rowR cd50 v111 r] ∧ v111 = v) := by
  rw [impl_sorted.f] at H
  obtain ⟨⟨c1, c2, c3⟩, H⟩ := ite_some H
  refine s_start Try.func48 rfl Try.ntmps48 rfl ?_
  intro a hF
  have hM := qM
  refine wp_seq ?_
  refine s_region ?_
  refine s_val hF rfl rfl rfl (e_assign hF rfl) ?_; intro a hF
  refine s_nil ?_
  refine then_n ?_
  refine wp_seq ?_
  refine s_region ?_
  refine s_val hF rfl rfl rfl (e_move hF rfl) ?_; intro a hF
  refine s_callx (R := fun w v => Ms X w0 w [rowR cd50 u0 (sortP l0)]) hF rfl rfl rfl Try.call63 ((sort_calls l0 u0 hM c2 c3).mono ?_) ?_
  · rintro e w ⟨rfl, h⟩
    exact ⟨_, rfl, h⟩
  intro a w v hF hM
  refine s_nil ?_
  refine then_n ?_
  refine wp_seq ?_
  refine s_region ?_
  refine s_val hF rfl rfl rfl (e_move hF rfl) ?_; intro a hF
  refine s_callx (R := fun w v => Ms X w0 w [rowR cd50 v r]) hF rfl rfl rfl Try.call65 ((slices_Compact_impl_Pair_impl_Pair.calls K (sortP l0) u0 (hM.lend (A := [rowR cd50 u0 (sortP l0)]) [0] rfl rfl) r H).mono ?_) ?_
  · rintro e w2 ⟨v, rfl, v1, h, rfl⟩
    exact ⟨_, rfl, hM.back (A := [rowR cd50 u0 (sortP l0)]) (B := []) [0] [] rfl rfl rfl h⟩
  intro a w v hF hM
  refine s_val hF rfl rfl rfl (e_assign hF rfl) ?_; intro a hF
  refine s_nil ?_
  refine then_n ?_
  refine wp_ret ?_
  refine s_ret [v] hF Try.results48 ⟨rfl, trivial⟩ ?_
  exact ⟨_, rfl, v, hM, rfl⟩

/-! ### loop.example/g01210/impl.shapes: function 58 -/
def impl_shapes.l0 (K : Nat) (l0 : (List (Ar 6))) (t1 : (Ar 121)) (t4 : (Int × Int)) : Nat → Int → (Ar 31) → (Ar 31) → Int → Int → (List ((Ar 6) × (Ar 6))) → Option ((Ar 31) × (Ar 31) × Int × Int × (List ((Ar 6) × (Ar 6))))
  | 0, _, _, _, _, _, _ => none
  | k + 1, x33, x34, x35, x36, x37, x39 => if x33 ≤ 6 then (if x33 ≠ 0 then (if (wrap64 (x33 * (wrap64 ((((Ar.zero 121).cpy ((t1.l.take 121).drop (t4.1 : Int).toNat)).get 0).tdiv x33)))) = (((Ar.zero 121).cpy ((t1.l.take 121).drop (t4.1 : Int).toNat)).get 0) then (if 6 < (wrap64 ((((Ar.zero 121).cpy ((t1.l.take 121).drop (t4.1 : Int).toNat)).get 0).tdiv x33)) then (impl_shapes.l0 K l0 t1 t4 k (wrap64 (x33 + 1)) x34 x35 x36 x37 x39) else ((impl_factors_grow__c1.f K ((Ar.zero 121).cpy ((t1.l.take 121).drop (t4.1 : Int).toNat)) (x34.set 0 x33) (x35.set 0 (wrap64 ((((Ar.zero 121).cpy ((t1.l.take 121).drop (t4.1 : Int).toNat)).get 0).tdiv x33))) (wrap64 (6 - x33)) (wrap64 (6 - (wrap64 ((((Ar.zero 121).cpy ((t1.l.take 121).drop (t4.1 : Int).toNat)).get 0).tdiv x33)))) x39 1).bind fun t44 => impl_shapes.l0 K l0 t1 t4 k (wrap64 (x33 + 1)) t44.2.1 t44.2.2.1 t44.2.2.2.1 t44.2.2.2.2.1 t44.2.2.2.2.2)) else (impl_shapes.l0 K l0 t1 t4 k (wrap64 (x33 + 1)) x34 x35 x36 x37 x39)) else none) else (some (x34, x35, x36, x37, x39))
def impl_shapes.f (K : Nat) (l0 : (List (Ar 6))) : Option (List ((Ar 6) × (Ar 6))) := (impl_sums.f K l0).bind fun t1 => (impl_bounds.f K l0).bind fun t4 => if (0 : Int) ≤ t4.1 ∧ t4.1 ≤ 121 ∧ (121 : Int) ≤ 121 then ((impl_shapes.l0 K l0 t1 t4 K 1 (Ar.zero 31) (Ar.zero 31) (0 : Int) (0 : Int) ([] : List ((Ar 6) × (Ar 6)))).bind fun (x27, x28, x29, x30, x32) => (impl_sorted.f K x32).bind fun t49 => some t49) else none
set_option maxRecDepth 100000 in
set_option maxHeartbeats 4000000 in
theorem impl_shapes.calls {w0 : World} (K : Nat) (l0 : (List (Ar 6))) (u0 : Value) (q0 : SlR cd31 w0 u0 l0) (r : (List ((Ar 6) × (Ar 6)))) (H : impl_shapes.f K l0 = some r) : Calls Try.prog 58 [u0].toArray w0 (Post w0 fun w v => Fresh cd50 w0.heap.size w v r) := by
  rw [impl_shapes.f] at H
  refine s_start Try.func58 rfl Try.ntmps58 rfl ?_
  intro a hF
  have hM := Ms.start w0
  skip
  refine wp_seq ?_
  refine s_region ?_
  refine s_val hF rfl rfl rfl (e_assign hF rfl) ?_; intro a hF
  refine s_nil ?_
  refine then_n ?_
  refine wp_seq ?_
  obtain ⟨t1, h2, H⟩ := bind_some H
  refine s_region ?_
  refine s_val hF rfl rfl rfl (e_move hF rfl) ?_; intro a hF
  refine s_call hF rfl rfl rfl Try.call33 (impl_sums.calls K l0 u0 (q0.frm hM.frm) t1 h2) ?_; intro a w v hF hf hR
  subst hR; have hM := hM.grow hf
  refine s_alloc (ps := [Pt.ar (Ar.zero 121)]) hF hM rfl rfl zv43 rfl ?_; intro a w b3 hF hM
  refine s_stw (i := 0) (ps' := [Pt.ar t1]) hF hM rfl rfl rfl rfl rfl rfl Try.sizeOf43 rfl ?_; intro a w hF hM
  refine s_nil ?_
  refine then_n ?_
  refine wp_seq ?_
  obtain ⟨t4, h5, H⟩ := bind_some H
  refine s_region ?_
  refine s_val hF rfl rfl rfl (e_move hF rfl) ?_; intro a hF
  refine s_call hF rfl rfl rfl Try.call57 (impl_bounds.calls K l0 u0 (q0.frm hM.frm) t4 h5) ?_; intro a w v hF hf hR
  subst hR; have hM := hM.grow hf
  refine s_val hF rfl rfl rfl (e_move hF rfl) ?_; intro a hF
  refine s_val hF rfl rfl rfl (e_extract hF rfl rfl) ?_; intro a hF
  refine s_val hF rfl rfl rfl (e_extract hF rfl rfl) ?_; intro a hF
  refine s_val hF rfl rfl rfl (e_assign hF rfl) ?_; intro a hF
  refine s_val hF rfl rfl rfl (e_assign hF rfl) ?_; intro a hF
  refine s_nil ?_
  refine then_n ?_
  refine wp_seq ?_
  refine s_region ?_
  refine s_val hF rfl rfl rfl (e_build' hF rfl (agg75_ )) ?_; intro a hF
  have hM := hM.nilRow cd50
  refine s_box (ps := [Pt.ar (Ar.zero 121), Pt.ar (Ar.zero 31), Pt.ar (Ar.zero 31), Pt.int (0 : Int), Pt.int (0 : Int), Pt.any (Value.slice none 0 0)]) hF hM rfl rfl rfl rfl ?_; intro a w b6 hF hM
  refine s_val hF rfl rfl rfl (e_assign hF rfl) ?_; intro a hF
  refine s_nil ?_
  refine then_n ?_
  refine wp_seq ?_
  obtain ⟨c7, H⟩ := ite_some H
  refine s_held (fun w => Ms [] w0 w [rowR cd50 (Value.slice none 0 0) ([] : List ((Ar 6) × (Ar 6))), boxR b3 [Pt.ar t1] 43]) #[false, false, false, false, false, false, false] mixed rfl rfl hM ?_; intro w hf hM; clear hf
  refine h_val 0 #[true, false, false, false, false, false, false] rfl (by kernel_rfl) hF rfl rfl rfl (fun w hS => e_move hF rfl) (hM.pick [1, 2] rfl rfl) ?_; intro a hF
  refine h_val 1 #[true, true, false, false, false, false, false] rfl (by kernel_rfl) hF rfl rfl rfl (fun w hS => e_nilc hF rfl) (hM.pick [1, 2] rfl rfl) ?_; intro a hF
  refine h_val 2 #[true, true, true, false, false, false, false] rfl (by kernel_rfl) hF rfl rfl rfl (fun w hS => e_fa hF rfl Try.underlying75 rfl Try.sizeOf43 rfl rfl) (hM.pick [1, 2] rfl rfl) ?_; intro a hF
  refine h_val 4 #[true, true, true, false, true, false, false] rfl (by kernel_rfl) hF rfl rfl rfl (fun w hS => e_move hF rfl) (hM.pick [1, 2] rfl rfl) ?_; intro a hF
  refine h_val 5 #[true, true, true, false, true, true, false] rfl (by kernel_rfl) hF rfl rfl rfl (fun w hS => e_slA_l hF rfl rfl Try.underlying43 Try.sizeOf3 c7) (hM.pick [1, 2] rfl rfl) ?_; intro a hF
  refine h_one 3 #[true, true, true, true, true, true, false] rfl (by kernel_rfl) ?_
  refine s_val hF rfl rfl rfl (e_slA0 hF rfl Try.underlying43 Try.sizeOf3) ?_; intro a hF
  refine s_nil ⟨rfl, (hM.pick [1, 2] rfl rfl), ?_⟩
  refine h_one 6 #[true, true, true, true, true, true, true] rfl (by kernel_rfl) ?_
  refine s_copyA (i := 0) (k := 0) cdok3 (cells_ints (fun _ => rfl)) hF hM rfl rfl rfl rfl ((hM.boxSl (k := 0) (m := 121) 2 rfl rfl rfl cd3 (fun _ => rfl) 121 (by decide)).sub (t4.1 : Int).toNat 121 (sl_lo_n' c7).1 (Nat.le_trans (sl_lo_n' c7).2 (Nat.le_of_eq (Ar.h _).symm))) rfl rfl rfl Try.underlying59 ?_; intro a w hF hM
  refine s_nil ⟨rfl, (hM.pick [1, 2] rfl rfl), ?_⟩
  refine h_done rfl ?_
  refine then_n ?_
  refine wp_seq ?_
  refine wp_seq ?_
  refine s_region ?_
  refine s_val hF rfl rfl rfl (e_assign hF rfl) ?_; intro a hF
  refine s_nil ?_
  refine then_n ?_
  refine wp_block ?_
  obtain ⟨o47, h48, H⟩ := bind_some H
  refine wp_mono (Q := fun e a w => (e = Exit.exit 0 ∧ ∃ v31 : Value, ∃ x27 : (Ar 31), ∃ x28 : (Ar 31), ∃ x29 : Int, ∃ x30 : Int, ∃ x32 : (List ((Ar 6) × (Ar 6))), (x27, x28, x29, x30, x32) = o47 ∧ Fr 76 a [(6, pt b6 0)] ∧ Ms [] w0 w [boxR b6 [Pt.ar ((Ar.zero 121).cpy ((t1.l.take 121).drop (t4.1 : Int).toNat)), Pt.ar x27, Pt.ar x28, Pt.int x29, Pt.int x30, Pt.any v31] 75, rowR cd50 v31 x32])) ?_ ?_
  · refine s_loop (fun kq a w => ∃ v38 : Value, ∃ x33 : Int, ∃ x34 : (Ar 31), ∃ x35 : (Ar 31), ∃ x36 : Int, ∃ x37 : Int, ∃ x39 : (List ((Ar 6) × (Ar 6))), impl_shapes.l0 K l0 t1 t4 kq x33 x34 x35 x36 x37 x39 = some o47 ∧ Fr 76 a [(6, pt b6 0), (7, Value.int .i64 x33)] ∧ Ms [] w0 w [boxR b6 [Pt.ar ((Ar.zero 121).cpy ((t1.l.take 121).drop (t4.1 : Int).toNat)), Pt.ar x34, Pt.ar x35, Pt.int x36, Pt.int x37, Pt.any v38] 75, rowR cd50 v38 x39]) K ⟨(Value.slice none 0 0), 1, (Ar.zero 31), (Ar.zero 31), (0 : Int), (0 : Int), ([] : List ((Ar 6) × (Ar 6))), h48, hF.sub _ ⟨rfl, rfl, trivial⟩, hM.pick [0, 1] rfl rfl⟩ ?_ ?_
    · rintro a w ⟨_, _, _, _, _, _, _, H, _⟩; exact none_some H
    · rintro k a w ⟨v38, x33, x34, x35, x36, x37, x39, H, hF, hM⟩; rw [impl_shapes.l0] at H
      refine wp_seq ?_
      refine wp_seq ?_
      refine s_region ?_
      refine s_val hF rfl rfl rfl (e_move hF rfl) ?_; intro a hF
      refine s_val hF rfl rfl rfl (e_leq hF rfl rfl) ?_; intro a hF
      refine s_nil ?_
      refine then_n ?_
      rcases ite_cases H with ⟨c40, H⟩ | ⟨c40, H⟩
      ·
        refine s_cond_t hF rfl (decide_eq_true c40) ?_
        refine wp_skip ?_
        refine then_n ?_
        refine wp_seq ?_
        refine wp_block ?_
        refine wp_seq ?_
        obtain ⟨c41, H⟩ := ite_some H
        refine s_region ?_
        refine s_val hF rfl rfl rfl (e_move hF rfl) ?_; intro a hF
        refine s_val hF rfl rfl rfl (e_nilc hF rfl) ?_; intro a hF
        refine s_val hF rfl rfl rfl (e_fa hF rfl Try.underlying75 rfl Try.sizeOf43 rfl rfl) ?_; intro a hF
        refine s_val hF rfl rfl rfl (e_ia hF rfl rfl Try.underlying43 Try.sizeOf3 (by decide) (by decide)) ?_; intro a hF
        refine s_val hF rfl rfl rfl (e_ldi (i := 0) (k := 0) hF hM rfl rfl rfl rfl rfl Try.isAgg3 (by decide) (by decide)) ?_; intro a hF
        refine s_val hF rfl rfl rfl (e_move hF rfl) ?_; intro a hF
        refine s_val hF rfl rfl rfl (e_quo hF rfl rfl c41) ?_; intro a hF
        refine s_val hF rfl rfl rfl (e_assign hF rfl) ?_; intro a hF
        refine s_nil ?_
        refine then_n ?_
        refine wp_seq ?_
        refine wp_seq ?_
        rcases ite_cases H with ⟨c42, H⟩ | ⟨c42, H⟩
        ·
          refine s_region ?_
          refine s_val hF rfl rfl rfl (e_move hF rfl) ?_; intro a hF
          refine s_val hF rfl rfl rfl (e_move hF rfl) ?_; intro a hF
          refine s_val hF rfl rfl rfl (e_mul hF rfl rfl) ?_; intro a hF
          refine s_val hF rfl rfl rfl (e_move hF rfl) ?_; intro a hF
          refine s_val hF rfl rfl rfl (e_nilc hF rfl) ?_; intro a hF
          refine s_val hF rfl rfl rfl (e_fa hF rfl Try.underlying75 rfl Try.sizeOf43 rfl rfl) ?_; intro a hF
          refine s_val hF rfl rfl rfl (e_ia hF rfl rfl Try.underlying43 Try.sizeOf3 (by decide) (by decide)) ?_; intro a hF
          refine s_val hF rfl rfl rfl (e_ldi (i := 0) (k := 0) hF hM rfl rfl rfl rfl rfl Try.isAgg3 (by decide) (by decide)) ?_; intro a hF
          refine s_val hF rfl rfl rfl (e_neq hF rfl rfl) ?_; intro a hF
          refine s_val hF rfl rfl rfl (e_move hF rfl) ?_; intro a hF
          have hF := hF.topb (congrArg Bool.not (decide_eq_true c42))
          refine s_val hF rfl rfl rfl (e_move hF rfl) ?_; intro a hF
          refine s_val hF rfl rfl rfl (e_gtr hF rfl rfl) ?_; intro a hF
          refine s_val hF rfl rfl rfl (e_pick_f hF rfl rfl) ?_; intro a hF
          refine s_nil ?_
          refine then_n ?_
          rcases ite_cases H with ⟨c43, H⟩ | ⟨c43, H⟩
          ·
            refine s_cond_t hF rfl (decide_eq_true c43) ?_
            refine wp_exit ?_
            refine then_x ?_
            refine blk_x ?_
            refine then_n ?_
            refine s_region ?_
            refine s_val hF rfl rfl rfl (e_move hF rfl) ?_; intro a hF
            refine s_val hF rfl rfl rfl (e_add hF rfl rfl) ?_; intro a hF
            refine s_val hF rfl rfl rfl (e_assign hF rfl) ?_; intro a hF
            refine s_nil ?_
            refine then_n ?_
            exact ⟨v38, (wrap64 (x33 + 1)), x34, x35, x36, x37, x39, H, hF.sub _ ⟨rfl, rfl, trivial⟩, hM.pick [0, 1] rfl rfl⟩
          ·
            refine s_cond_f hF rfl (decide_eq_false c43) ?_
            refine wp_skip ?_
            refine then_n ?_
            refine wp_seq ?_
            refine s_held (fun w => Ms [] w0 w [rowR cd50 v38 x39]) #[false, false, false, false, false, false, false, false, false, false, false, false] mixed rfl rfl hM ?_; intro w hf hM; clear hf
            refine h_val 0 #[true, false, false, false, false, false, false, false, false, false, false, false] rfl (by kernel_rfl) hF rfl rfl rfl (fun w hS => e_move hF rfl) (hM.pick [1] rfl rfl) ?_; intro a hF
            refine h_val 1 #[true, true, false, false, false, false, false, false, false, false, false, false] rfl (by kernel_rfl) hF rfl rfl rfl (fun w hS => e_move hF rfl) (hM.pick [1] rfl rfl) ?_; intro a hF
            refine h_val 2 #[true, true, true, false, false, false, false, false, false, false, false, false] rfl (by kernel_rfl) hF rfl rfl rfl (fun w hS => e_move hF rfl) (hM.pick [1] rfl rfl) ?_; intro a hF
            refine h_val 3 #[true, true, true, true, false, false, false, false, false, false, false, false] rfl (by kernel_rfl) hF rfl rfl rfl (fun w hS => e_move hF rfl) (hM.pick [1] rfl rfl) ?_; intro a hF
            refine h_val 4 #[true, true, true, true, true, false, false, false, false, false, false, false] rfl (by kernel_rfl) hF rfl rfl rfl (fun w hS => e_nilc hF rfl) (hM.pick [1] rfl rfl) ?_; intro a hF
            refine h_val 5 #[true, true, true, true, true, true, false, false, false, false, false, false] rfl (by kernel_rfl) hF rfl rfl rfl (fun w hS => e_fa hF rfl Try.underlying75 rfl Try.sizeOf73 rfl rfl) (hM.pick [1] rfl rfl) ?_; intro a hF
            refine h_val 6 #[true, true, true, true, true, true, true, false, false, false, false, false] rfl (by kernel_rfl) hF rfl rfl rfl (fun w hS => e_ia hF rfl rfl Try.underlying73 Try.sizeOf3 (by decide) (by decide)) (hM.pick [1] rfl rfl) ?_; intro a hF
            refine h_val 8 #[true, true, true, true, true, true, true, false, true, false, false, false] rfl (by kernel_rfl) hF rfl rfl rfl (fun w hS => e_nilc hF rfl) (hM.pick [1] rfl rfl) ?_; intro a hF
            refine h_val 9 #[true, true, true, true, true, true, true, false, true, true, false, false] rfl (by kernel_rfl) hF rfl rfl rfl (fun w hS => e_fa hF rfl Try.underlying75 rfl Try.sizeOf73 rfl rfl) (hM.pick [1] rfl rfl) ?_; intro a hF
            refine h_one 7 #[true, true, true, true, true, true, true, true, true, true, false, false] rfl (by kernel_rfl) ?_
            refine s_sti (i := 0) (k := 1) hF hM rfl rfl rfl rfl rfl rfl rfl Try.sizeOf3 (by decide) (by decide) ?_; intro a w hF hM
            refine s_nil ⟨rfl, (hM.pick [1] rfl rfl), ?_⟩
            refine h_val 10 #[true, true, true, true, true, true, true, true, true, true, true, false] rfl (by kernel_rfl) hF rfl rfl rfl (fun w hS => e_ia hF rfl rfl Try.underlying73 Try.sizeOf3 (by decide) (by decide)) (hM.pick [1] rfl rfl) ?_; intro a hF
            refine h_one 11 #[true, true, true, true, true, true, true, true, true, true, true, true] rfl (by kernel_rfl) ?_
            refine s_sti (i := 0) (k := 2) hF hM rfl rfl rfl rfl rfl rfl rfl Try.sizeOf3 (by decide) (by decide) ?_; intro a w hF hM
            refine s_nil ⟨rfl, (hM.pick [1] rfl rfl), ?_⟩
            refine h_done rfl ?_
            refine then_n ?_
            refine wp_seq ?_
            refine s_region ?_
            refine s_val hF rfl rfl rfl (e_move hF rfl) ?_; intro a hF
            refine s_val hF rfl rfl rfl (e_move hF rfl) ?_; intro a hF
            refine s_val hF rfl rfl rfl (e_move hF rfl) ?_; intro a hF
            refine s_val hF rfl rfl rfl (e_sub hF rfl rfl) ?_; intro a hF
            refine s_val hF rfl rfl rfl (e_move hF rfl) ?_; intro a hF
            refine s_val hF rfl rfl rfl (e_sub hF rfl rfl) ?_; intro a hF
            refine s_val hF rfl rfl rfl (e_nilc hF rfl) ?_; intro a hF
            refine s_val hF rfl rfl rfl (e_fa hF rfl Try.underlying75 rfl Try.sizeOf3 rfl rfl) ?_; intro a hF
            refine s_st (i := 0) (k := 3) (Pt.int (wrap64 (6 - x33))) hF hM rfl rfl rfl rfl rfl rfl rfl rfl Try.sizeOf3 rfl ?_; intro a w hF hM
            refine s_val hF rfl rfl rfl (e_nilc hF rfl) ?_; intro a hF
            refine s_val hF rfl rfl rfl (e_fa hF rfl Try.underlying75 rfl Try.sizeOf3 rfl rfl) ?_; intro a hF
            refine s_st (i := 0) (k := 4) (Pt.int (wrap64 (6 - (wrap64 ((((Ar.zero 121).cpy ((t1.l.take 121).drop (t4.1 : Int).toNat)).get 0).tdiv x33))))) hF hM rfl rfl rfl rfl rfl rfl rfl rfl Try.sizeOf3 rfl ?_; intro a w hF hM
            refine s_nil ?_
            refine then_n ?_
            obtain ⟨t44, h45, H⟩ := bind_some H
            refine s_region ?_
            refine s_val hF rfl rfl rfl (e_move hF rfl) ?_; intro a hF
            refine s_callx hF rfl rfl rfl Try.call73 (impl_factors_grow__c1.calls K b6 ((Ar.zero 121).cpy ((t1.l.take 121).drop (t4.1 : Int).toNat)) (x34.set 0 x33) (x35.set 0 (wrap64 ((((Ar.zero 121).cpy ((t1.l.take 121).drop (t4.1 : Int).toNat)).get 0).tdiv x33))) (wrap64 (6 - x33)) (wrap64 (6 - (wrap64 ((((Ar.zero 121).cpy ((t1.l.take 121).drop (t4.1 : Int).toNat)).get 0).tdiv x33)))) v38 x39 1 (hM.lend [0, 1] rfl rfl) t44 h45) ?_; intro a w v hF hR
            obtain ⟨v46, hR, rfl⟩ := hR; have hM := hM.back [0, 1] [] (by decide) rfl rfl hR
            refine s_nil ?_
            refine blk_n ?_
            refine then_n ?_
            refine s_region ?_
            refine s_val hF rfl rfl rfl (e_move hF rfl) ?_; intro a hF
            refine s_val hF rfl rfl rfl (e_add hF rfl rfl) ?_; intro a hF
            refine s_val hF rfl rfl rfl (e_assign hF rfl) ?_; intro a hF
            refine s_nil ?_
            refine then_n ?_
            exact ⟨v46, (wrap64 (x33 + 1)), t44.2.1, t44.2.2.1, t44.2.2.2.1, t44.2.2.2.2.1, t44.2.2.2.2.2, H, hF.sub _ ⟨rfl, rfl, trivial⟩, hM.pick [0, 1] rfl rfl⟩
        ·
          refine s_region ?_
          refine s_val hF rfl rfl rfl (e_move hF rfl) ?_; intro a hF
          refine s_val hF rfl rfl rfl (e_move hF rfl) ?_; intro a hF
          refine s_val hF rfl rfl rfl (e_mul hF rfl rfl) ?_; intro a hF
          refine s_val hF rfl rfl rfl (e_move hF rfl) ?_; intro a hF
          refine s_val hF rfl rfl rfl (e_nilc hF rfl) ?_; intro a hF
          refine s_val hF rfl rfl rfl (e_fa hF rfl Try.underlying75 rfl Try.sizeOf43 rfl rfl) ?_; intro a hF
          refine s_val hF rfl rfl rfl (e_ia hF rfl rfl Try.underlying43 Try.sizeOf3 (by decide) (by decide)) ?_; intro a hF
          refine s_val hF rfl rfl rfl (e_ldi (i := 0) (k := 0) hF hM rfl rfl rfl rfl rfl Try.isAgg3 (by decide) (by decide)) ?_; intro a hF
          refine s_val hF rfl rfl rfl (e_neq hF rfl rfl) ?_; intro a hF
          refine s_val hF rfl rfl rfl (e_move hF rfl) ?_; intro a hF
          have hF := hF.topb (congrArg Bool.not (decide_eq_false c42))
          refine s_skip hF rfl rfl rfl ?_; intro a hF
          refine s_skip hF rfl rfl rfl ?_; intro a hF
          refine s_val hF rfl rfl rfl (e_pick_t hF rfl rfl) ?_; intro a hF
          refine s_nil ?_
          refine then_n ?_
          refine s_cond_t hF rfl rfl ?_
          refine wp_exit ?_
          refine then_x ?_
          refine blk_x ?_
          refine then_n ?_
          refine s_region ?_
          refine s_val hF rfl rfl rfl (e_move hF rfl) ?_; intro a hF
          refine s_val hF rfl rfl rfl (e_add hF rfl rfl) ?_; intro a hF
          refine s_val hF rfl rfl rfl (e_assign hF rfl) ?_; intro a hF
          refine s_nil ?_
          refine then_n ?_
          exact ⟨v38, (wrap64 (x33 + 1)), x34, x35, x36, x37, x39, H, hF.sub _ ⟨rfl, rfl, trivial⟩, hM.pick [0, 1] rfl rfl⟩
      ·
        refine s_cond_f hF rfl (decide_eq_false c40) ?_
        refine wp_exit ?_
        refine then_x ?_
        refine then_x ?_
        exact ⟨rfl, v38, x34, x35, x36, x37, x39, some_some H, hF.sub _ ⟨rfl, trivial⟩, hM.pick [0, 1] rfl rfl⟩
  · rintro e a w ⟨rfl, v31, x27, x28, x29, x30, x32, rfl, hF, hM⟩
    skip
    refine blk_x ?_
    refine then_n ?_
    refine wp_seq ?_
    obtain ⟨t49, h50, H⟩ := bind_some H
    refine s_region ?_
    refine s_val hF rfl rfl rfl (e_move hF rfl) ?_; intro a hF
    refine s_val hF rfl rfl rfl (e_nilc hF rfl) ?_; intro a hF
    refine s_val hF rfl rfl rfl (e_fa hF rfl Try.underlying75 rfl Try.sizeOf37 rfl rfl) ?_; intro a hF
    refine s_val hF rfl rfl rfl (e_ld (i := 0) (k := 5) hF hM rfl rfl rfl rfl Try.isAgg37 (any_cs (hM.sl 1 rfl).toF.one)) ?_; intro a hF
    refine s_callx hF rfl rfl rfl Try.call48 (impl_sorted.calls K x32 v31 (hM.lend [1] rfl rfl) t49 h50) ?_; intro a w v hF hR
    obtain ⟨v51, hR, rfl⟩ := hR; have hM := hM.back [1] [0] (by decide) rfl rfl hR
    refine s_val hF rfl rfl rfl (e_assign hF rfl) ?_; intro a hF
    refine s_nil ?_
    refine then_n ?_
    refine wp_ret ?_
    obtain rfl := some_some H
    refine s_ret [v51] hF Try.results58 ⟨rfl, trivial⟩ ?_
    exact ⟨_, rfl, hM.frm, hM.give 0 rfl⟩

/-! ### loop.example/g01210/impl.shifted: function 59 -/
def impl_shifted.l0 (K : Nat) (a1 : Int) : Nat → Int → (Ar 6) → Option (Ar 6)
  | 0, _, _ => none
  | k + 1, x8, x9 => if x8 < 6 then (if (0 : Int) ≤ x8 ∧ x8 < 6 then (impl_shifted.l0 K a1 k (wrap64 (x8 + 1)) (x9.set x8 (wrap64 ((x9.get x8) + a1)))) else none) else (some x9)
def impl_shifted.f (K : Nat) (a0 : (Ar 6)) (a1 : Int) : Option (Ar 6) := (impl_shifted.l0 K a1 K 0 a0).bind fun x7 => some x7
set_option maxRecDepth 100000 in
set_option maxHeartbeats 4000000 in
theorem impl_shifted.calls {w0 : World} (K : Nat) (a0 : (Ar 6)) (a1 : Int) (r : (Ar 6)) (H : impl_shifted.f K a0 a1 = some r) : Calls Try.prog 59 [ag [Pt.ar a0], Value.int .i64 a1].toArray w0 (Post w0 fun w v => v = ag [Pt.ar r]) := by
  rw [impl_shifted.f] at H
  refine s_start Try.func59 rfl Try.ntmps59 rfl ?_
  intro a hF
  have hM := Ms.start w0
  skip
  refine wp_seq ?_
  refine s_region ?_
  refine s_box (ps := [Pt.ar a0]) hF hM rfl rfl rfl rfl ?_; intro a w b1 hF hM
  refine s_alloc (ps := [Pt.ar (Ar.zero 6)]) hF hM rfl rfl zv31 rfl ?_; intro a w b2 hF hM
  refine s_nil ?_
  refine then_n ?_
  refine wp_seq ?_
  refine wp_seq ?_
  refine s_region ?_
  refine s_val hF rfl rfl rfl (e_move hF rfl) ?_; intro a hF
  refine s_nil ?_
  refine then_n ?_
  refine wp_block ?_
  obtain ⟨o12, h13, H⟩ := bind_some H
  refine wp_mono (Q := fun e a w => (e = Exit.exit 0 ∧ ∃ x7 : (Ar 6), x7 = o12 ∧ Fr 17 a [(2, pt b1 0), (4, pt b2 0)] ∧ Ms [] w0 w [boxR b1 [Pt.ar x7] 31, boxR b2 [Pt.ar (Ar.zero 6)] 31])) ?_ ?_
  · refine s_loop (fun kq a w => ∃ x8 : Int, ∃ x9 : (Ar 6), impl_shifted.l0 K a1 kq x8 x9 = some o12 ∧ Fr 17 a [(1, Value.int .i64 a1), (2, pt b1 0), (4, pt b2 0), (6, Value.int .i64 x8)] ∧ Ms [] w0 w [boxR b1 [Pt.ar x9] 31, boxR b2 [Pt.ar (Ar.zero 6)] 31]) K ⟨0, a0, h13, hF.sub _ ⟨rfl, rfl, rfl, rfl, trivial⟩, hM.pick [1, 0] rfl rfl⟩ ?_ ?_
    · rintro a w ⟨_, _, H, _⟩; exact none_some H
    · rintro k a w ⟨x8, x9, H, hF, hM⟩; rw [impl_shifted.l0] at H
      refine wp_seq ?_
      refine s_region ?_
      refine s_val hF rfl rfl rfl (e_lss hF rfl rfl) ?_; intro a hF
      refine s_nil ?_
      refine then_n ?_
      refine wp_seq ?_
      rcases ite_cases H with ⟨c10, H⟩ | ⟨c10, H⟩
      ·
        refine s_cond_t hF rfl (decide_eq_true c10) ?_
        refine wp_skip ?_
        refine then_n ?_
        refine wp_seq ?_
        refine wp_block ?_
        refine wp_seq ?_
        refine s_region ?_
        refine s_val hF rfl rfl rfl (e_move hF rfl) ?_; intro a hF
        refine s_val hF rfl rfl rfl (e_assign hF rfl) ?_; intro a hF
        refine s_nil ?_
        refine then_n ?_
        obtain ⟨c11, H⟩ := ite_some H
        refine s_region ?_
        refine s_val hF rfl rfl rfl (e_move hF rfl) ?_; intro a hF
        refine s_val hF rfl rfl rfl (e_ia hF rfl rfl Try.underlying31 Try.sizeOf3 c11.1 c11.2) ?_; intro a hF
        refine s_val hF rfl rfl rfl (e_ldi (i := 0) (k := 0) hF hM rfl rfl rfl rfl rfl Try.isAgg3 c11.1 c11.2) ?_; intro a hF
        refine s_val hF rfl rfl rfl (e_move hF rfl) ?_; intro a hF
        refine s_val hF rfl rfl rfl (e_add hF rfl rfl) ?_; intro a hF
        refine s_val hF rfl rfl rfl (e_ia hF rfl rfl Try.underlying31 Try.sizeOf3 c11.1 c11.2) ?_; intro a hF
        refine s_sti (i := 0) (k := 0) hF hM rfl rfl rfl rfl rfl rfl rfl Try.sizeOf3 c11.1 c11.2 ?_; intro a w hF hM
        refine s_nil ?_
        refine blk_n ?_
        refine then_n ?_
        refine s_region ?_
        refine s_val hF rfl rfl rfl (e_add hF rfl rfl) ?_; intro a hF
        refine s_val hF rfl rfl rfl (e_move hF rfl) ?_; intro a hF
        refine s_nil ?_
        refine then_n ?_
        exact ⟨(wrap64 (x8 + 1)), (x9.set x8 (wrap64 ((x9.get x8) + a1))), H, hF.sub _ ⟨rfl, rfl, rfl, rfl, trivial⟩, hM.pick [0, 1] rfl rfl⟩
      ·
        refine s_cond_f hF rfl (decide_eq_false c10) ?_
        refine wp_exit ?_
        refine then_x ?_
        refine then_x ?_
        exact ⟨rfl, x9, some_some H, hF.sub _ ⟨rfl, rfl, trivial⟩, hM.pick [0, 1] rfl rfl⟩
  · rintro e a w ⟨rfl, x7, rfl, hF, hM⟩
    skip
    refine blk_x ?_
    refine then_n ?_
    refine wp_seq ?_
    refine s_region ?_
    refine s_val hF rfl rfl rfl (e_lda (i := 0) 0 1 hF hM rfl rfl rfl rfl Try.isAgg31 Try.sizeOf31 rfl) ?_; intro a hF
    refine s_stw (i := 1) (ps' := [Pt.ar x7]) hF hM rfl rfl rfl rfl rfl rfl Try.sizeOf31 rfl ?_; intro a w hF hM
    refine s_nil ?_
    refine then_n ?_
    refine wp_ret ?_
    obtain rfl := some_some H
    refine s_ret [ag [Pt.ar x7]] hF Try.results59 ⟨⟨_, rfl, rv_box hM (i := 1) rfl Try.isAgg31 Try.sizeOf31 rfl⟩, trivial⟩ ?_
    exact ⟨_, rfl, hM.frm, rfl⟩

/-! ### loop.example/g01210/impl.pairsLike: function 41 -/
def impl_pairsLike.l4 (K : Nat) (t1 : (Int × Int)) (t3 : (List ((Ar 6) × (Ar 6)))) (x232 : Int) : Nat → Int → (List ((Ar 6) × (Ar 6))) → Option (List ((Ar 6) × (Ar 6)))
  | 0, _, _ => none
  | k + 1, x279, x281 => if x279 < (wrap64 (t1.1 + 1)) then ((impl_shifted.f K ((t3.getD (x232 : Int).toNat ((Ar.zero 6), (Ar.zero 6))).1) x279).bind fun t283 => (impl_shifted.f K ((t3.getD (x232 : Int).toNat ((Ar.zero 6), (Ar.zero 6))).2) (wrap64 (t1.1 - x279))).bind fun t285 => (impl_IsDie.f K t283).bind fun t289 => if t289 = true then ((impl_IsDie.f K t285).bind fun t292 => if t292 = true then ((impl_pairOf.f K t283 t285).bind fun t295 => if x281.length + [t295].length ≤ 1073741824 then (impl_pairsLike.l4 K t1 t3 x232 k (wrap64 (x279 + 1)) (x281 ++ [t295])) else none) else (impl_pairsLike.l4 K t1 t3 x232 k (wrap64 (x279 + 1)) x281)) else (impl_pairsLike.l4 K t1 t3 x232 k (wrap64 (x279 + 1)) x281)) else (some x281)
def impl_pairsLike.l3 (K : Nat) (t1 : (Int × Int)) (t3 : (List ((Ar 6) × (Ar 6)))) : Nat → Int → (List ((Ar 6) × (Ar 6))) → Option (List ((Ar 6) × (Ar 6)))
  | 0, _, _ => none
  | k + 1, x232, x234 => if x232 < (t3.length : Int) then (if (0 : Int) ≤ x232 ∧ x232 < (t3.length : Int) then ((impl_pairsLike.l4 K t1 t3 x232 K 0 x234).bind fun x278 => impl_pairsLike.l3 K t1 t3 k (wrap64 (x232 + 1)) x278) else none) else (some x234)
def impl_pairsLike.f (K : Nat) (l0 : (List (Ar 6))) : Option (List ((Ar 6) × (Ar 6))) := (impl_bounds.f K l0).bind fun t1 => (impl_shapes.f K l0).bind fun t3 => (impl_pairsLike.l3 K t1 t3 K 0 ([] : List ((Ar 6) × (Ar 6)))).bind fun x231 => (impl_sorted.f K x231).bind fun t304 => some t304
set_option maxRecDepth 100000 in
set_option maxHeartbeats 4000000 in
theorem impl_pairsLike.calls {w0 : World} (K : Nat) (l0 : (List (Ar 6))) (u0 : Value) (q0 : SlR cd31 w0 u0 l0) (r : (List ((Ar 6) × (Ar 6)))) (H : impl_pairsLike.f K l0 = some r) : Calls Try.prog 41 [u0].toArray w0 (Post w0 fun w v => Fresh cd50 w0.heap.size w v r) := by
  rw [impl_pairsLike.f] at H
  refine s_start Try.func41 rfl Try.ntmps41 rfl ?_
  intro a hF
  have hM := Ms.start w0
  skip
  refine wp_seq ?_
  refine s_region ?_
  refine s_val hF rfl rfl rfl (e_assign hF rfl) ?_; intro a hF
  refine s_nil ?_
  refine then_n ?_
  refine wp_seq ?_
  obtain ⟨t1, h2, H⟩ := bind_some H
  refine s_region ?_
  refine s_val hF rfl rfl rfl (e_move hF rfl) ?_; intro a hF
  refine s_call hF rfl rfl rfl Try.call57 (impl_bounds.calls K l0 u0 (q0.frm hM.frm) t1 h2) ?_; intro a w v hF hf hR
  subst hR; have hM := hM.grow hf
  refine s_val hF rfl rfl rfl (e_move hF rfl) ?_; intro a hF
  refine s_val hF rfl rfl rfl (e_extract hF rfl rfl) ?_; intro a hF
  refine s_val hF rfl rfl rfl (e_extract hF rfl rfl) ?_; intro a hF
  refine s_val hF rfl rfl rfl (e_assign hF rfl) ?_; intro a hF
  refine s_val hF rfl rfl rfl (e_assign hF rfl) ?_; intro a hF
  refine s_nil ?_
  refine then_n ?_
  refine wp_seq ?_
  refine s_region ?_
  refine s_val hF rfl rfl rfl (e_assign hF rfl) ?_; intro a hF
  refine s_nil ?_
  refine then_n ?_
  refine wp_seq ?_
  refine wp_seq ?_
  obtain ⟨t3, h4, H⟩ := bind_some H
  refine s_region ?_
  refine s_val hF rfl rfl rfl (e_move hF rfl) ?_; intro a hF
  refine s_call hF rfl rfl rfl Try.call58 (impl_shapes.calls K l0 u0 (q0.frm hM.frm) t3 h4) ?_; intro a w v5 hF hf hR
  have hM := hM.fresh hf hR
  refine s_val hF rfl rfl rfl (e_len hF rfl (hM.sl 0 rfl).toF Try.underlying37) ?_; intro a hF
  refine s_val hF rfl rfl rfl (e_move hF rfl) ?_; intro a hF
  refine s_nil ?_
  refine then_n ?_
  refine wp_block ?_
  have hM := hM.nilRow cd50
  obtain ⟨o302, h303, H⟩ := bind_some H
  refine wp_mono (Q := fun e a w => (e = Exit.exit 0 ∧ ∃ v230 : Value, ∃ x231 : (List ((Ar 6) × (Ar 6))), x231 = o302 ∧ Fr 54 a [(5, v230)] ∧ Ms [] w0 w [rowR cd50 v230 x231])) ?_ ?_
  · refine s_loop (fun kq a w => ∃ v233 : Value, ∃ x232 : Int, ∃ x234 : (List ((Ar 6) × (Ar 6))), impl_pairsLike.l3 K t1 t3 kq x232 x234 = some o302 ∧ Fr 54 a [(3, Value.int .i64 t1.1), (5, v233), (17, v5), (18, Value.int .i64 (t3.length : Int)), (19, Value.int .i64 x232)] ∧ Ms [] w0 w [rowR cd50 v233 x234, rowR cd50 v5 t3]) K ⟨(Value.slice none 0 0), 0, ([] : List ((Ar 6) × (Ar 6))), h303, hF.sub _ ⟨rfl, rfl, rfl, rfl, rfl, trivial⟩, hM.pick [0, 1] rfl rfl⟩ ?_ ?_
    · rintro a w ⟨_, _, _, H, _⟩; exact none_some H
    · rintro k a w ⟨v233, x232, x234, H, hF, hM⟩; rw [impl_pairsLike.l3] at H
      refine wp_seq ?_
      refine s_region ?_
      refine s_val hF rfl rfl rfl (e_lss hF rfl rfl) ?_; intro a hF
      refine s_nil ?_
      refine then_n ?_
      refine wp_seq ?_
      rcases ite_cases H with ⟨c235, H⟩ | ⟨c235, H⟩
      ·
        refine s_cond_t hF rfl (decide_eq_true c235) ?_
        refine wp_skip ?_
        refine then_n ?_
        refine wp_seq ?_
        refine wp_block ?_
        refine wp_seq ?_
        obtain ⟨c236, H⟩ := ite_some H
        refine s_region ?_
        refine s_val hF rfl rfl rfl (e_ias cd50 hF rfl rfl (hM.sl 1 rfl).toF Try.underlying37 Try.sizeOf50 c236.1 c236.2) ?_; intro a hF
        refine s_val hF rfl rfl rfl (e_ldsa (m := x232) hF rfl (hM.sl 1 rfl) (getD_some (z := ((Ar.zero 6), (Ar.zero 6))) c236.1 c236.2) Try.isAgg50 Try.sizeOf50) ?_; intro a hF
        refine s_alloc (ps := [Pt.ar (((Ar.zero 6), (Ar.zero 6)).1), Pt.ar (((Ar.zero 6), (Ar.zero 6)).2)]) hF hM rfl rfl zv50 rfl ?_; intro a w b237 hF hM
        refine s_stw (i := 0) (ps' := [Pt.ar ((t3.getD (x232 : Int).toNat ((Ar.zero 6), (Ar.zero 6))).1), Pt.ar ((t3.getD (x232 : Int).toNat ((Ar.zero 6), (Ar.zero 6))).2)]) hF hM rfl rfl rfl rfl rfl rfl Try.sizeOf50 rfl ?_; intro a w hF hM
        refine s_nil ?_
        refine then_n ?_
        refine wp_seq ?_
        refine s_region ?_
        refine s_val hF rfl rfl rfl (e_move hF rfl) ?_; intro a hF
        refine s_val hF rfl rfl rfl (e_add hF rfl rfl) ?_; intro a hF
        refine s_val hF rfl rfl rfl (e_move hF rfl) ?_; intro a hF
        refine s_nil ?_
        refine then_n ?_
        refine wp_block ?_
        obtain ⟨o300, h301, H⟩ := bind_some H
        refine wp_mono (Q := fun e a w => (e = Exit.exit 2 ∧ ∃ v277 : Value, ∃ x278 : (List ((Ar 6) × (Ar 6))), x278 = o300 ∧ Fr 54 a [(3, Value.int .i64 t1.1), (5, v277), (17, v5), (18, Value.int .i64 (t3.length : Int)), (19, Value.int .i64 x232)] ∧ Ms [] w0 w [rowR cd50 v277 x278, rowR cd50 v5 t3])) ?_ ?_
        · refine s_loop (fun kq a w => ∃ v280 : Value, ∃ x279 : Int, ∃ x281 : (List ((Ar 6) × (Ar 6))), impl_pairsLike.l4 K t1 t3 x232 kq x279 x281 = some o300 ∧ Fr 54 a [(3, Value.int .i64 t1.1), (5, v280), (7, pt b237 0), (17, v5), (18, Value.int .i64 (t3.length : Int)), (19, Value.int .i64 x232), (24, Value.int .i64 (wrap64 (t1.1 + 1))), (25, Value.int .i64 x279)] ∧ Ms [] w0 w [rowR cd50 v280 x281, boxR b237 [Pt.ar ((t3.getD (x232 : Int).toNat ((Ar.zero 6), (Ar.zero 6))).1), Pt.ar ((t3.getD (x232 : Int).toNat ((Ar.zero 6), (Ar.zero 6))).2)] 50, rowR cd50 v5 t3]) K ⟨v233, 0, x234, h301, hF.sub _ ⟨rfl, rfl, rfl, rfl, rfl, rfl, rfl, rfl, trivial⟩, hM.pick [1, 0, 2] rfl rfl⟩ ?_ ?_
          · rintro a w ⟨_, _, _, H, _⟩; exact none_some H
          · rintro k a w ⟨v280, x279, x281, H, hF, hM⟩; rw [impl_pairsLike.l4] at H
            refine wp_seq ?_
            refine s_region ?_
            refine s_val hF rfl rfl rfl (e_lss hF rfl rfl) ?_; intro a hF
            refine s_nil ?_
            refine then_n ?_
            refine wp_seq ?_
            rcases ite_cases H with ⟨c282, H⟩ | ⟨c282, H⟩
            ·
              refine s_cond_t hF rfl (decide_eq_true c282) ?_
              refine wp_skip ?_
              refine then_n ?_
              refine wp_seq ?_
              refine wp_block ?_
              refine wp_seq ?_
              refine s_region ?_
              refine s_val hF rfl rfl rfl (e_move hF rfl) ?_; intro a hF
              refine s_val hF rfl rfl rfl (e_assign hF rfl) ?_; intro a hF
              refine s_nil ?_
              refine then_n ?_
              refine wp_seq ?_
              obtain ⟨t283, h284, H⟩ := bind_some H
              obtain ⟨t285, h286, H⟩ := bind_some H
              refine wp_mono (Q := fun e a w => e = Exit.normal ∧ ∃ b287 : Nat, ∃ b288 : Nat, Fr 54 a [(3, Value.int .i64 t1.1), (5, v280), (7, pt b237 0), (9, pt b287 0), (10, pt b288 0), (17, v5), (18, Value.int .i64 (t3.length : Int)), (19, Value.int .i64 x232), (24, Value.int .i64 (wrap64 (t1.1 + 1))), (25, Value.int .i64 x279)] ∧ Ms [] w0 w [boxR b287 [Pt.ar t283] 31, boxR b288 [Pt.ar t285] 31, rowR cd50 v280 x281, boxR b237 [Pt.ar ((t3.getD (x232 : Int).toNat ((Ar.zero 6), (Ar.zero 6))).1), Pt.ar ((t3.getD (x232 : Int).toNat ((Ar.zero 6), (Ar.zero 6))).2)] 50, rowR cd50 v5 t3]) ?_ ?_
              · skip
                refine s_held (fun w => Ms [] w0 w [rowR cd50 v280 x281, boxR b237 [Pt.ar ((t3.getD (x232 : Int).toNat ((Ar.zero 6), (Ar.zero 6))).1), Pt.ar ((t3.getD (x232 : Int).toNat ((Ar.zero 6), (Ar.zero 6))).2)] 50, rowR cd50 v5 t3]) #[false, false, false, false, false, false, false, false, false, false, false, false, false, false] mixed rfl rfl hM ?_; intro w hf hM; clear hf
                refine h_val 0 #[true, false, false, false, false, false, false, false, false, false, false, false, false, false] rfl (by kernel_rfl) hF rfl rfl rfl (fun w hS => e_fa hF rfl Try.underlying50 rfl Try.sizeOf31 rfl rfl) (hM.pick [0, 1, 2] rfl rfl) ?_; intro a hF
                refine h_val 1 #[true, true, false, false, false, false, false, false, false, false, false, false, false, false] rfl (by kernel_rfl) hF rfl rfl rfl (fun w hS => e_lda (i := 1) 0 1 hF hS rfl rfl rfl rfl Try.isAgg31 Try.sizeOf31 rfl) (hM.pick [0, 1, 2] rfl rfl) ?_; intro a hF
                refine h_val 2 #[true, true, true, false, false, false, false, false, false, false, false, false, false, false] rfl (by kernel_rfl) hF rfl rfl rfl (fun w hS => e_move hF rfl) (hM.pick [0, 1, 2] rfl rfl) ?_; intro a hF
                refine h_val 4 #[true, true, true, false, true, false, false, false, false, false, false, false, false, false] rfl (by kernel_rfl) hF rfl rfl rfl (fun w hS => e_fa hF rfl Try.underlying50 rfl Try.sizeOf31 rfl rfl) (hM.pick [0, 1, 2] rfl rfl) ?_; intro a hF
                refine h_val 5 #[true, true, true, false, true, true, false, false, false, false, false, false, false, false] rfl (by kernel_rfl) hF rfl rfl rfl (fun w hS => e_lda (i := 1) 1 1 hF hS rfl rfl rfl rfl Try.isAgg31 Try.sizeOf31 rfl) (hM.pick [0, 1, 2] rfl rfl) ?_; intro a hF
                refine h_val 6 #[true, true, true, false, true, true, true, false, false, false, false, false, false, false] rfl (by kernel_rfl) hF rfl rfl rfl (fun w hS => e_move hF rfl) (hM.pick [0, 1, 2] rfl rfl) ?_; intro a hF
                refine h_val 7 #[true, true, true, false, true, true, true, true, false, false, false, false, false, false] rfl (by kernel_rfl) hF rfl rfl rfl (fun w hS => e_move hF rfl) (hM.pick [0, 1, 2] rfl rfl) ?_; intro a hF
                refine h_val 8 #[true, true, true, false, true, true, true, true, true, false, false, false, false, false] rfl (by kernel_rfl) hF rfl rfl rfl (fun w hS => e_sub hF rfl rfl) (hM.pick [0, 1, 2] rfl rfl) ?_; intro a hF
                refine h_three 3 10 11 #[true, true, true, true, true, true, true, true, true, false, false, false, false, false] #[true, true, true, false, true, true, true, true, true, false, true, false, false, false] #[true, true, true, false, true, true, true, true, true, false, false, true, false, false] rfl rfl rfl rfl rfl rfl (by kernel_rfl) ?_ ?_ ?_
                · skip
                  refine s_call hF rfl rfl rfl Try.call59 (impl_shifted.calls K ((t3.getD (x232 : Int).toNat ((Ar.zero 6), (Ar.zero 6))).1) x279 t283 h284) ?_; intro a w v hF hf hR
                  subst hR; have hM := hM.grow hf
                  refine s_nil ⟨rfl, (hM.pick [0, 1, 2] rfl rfl), ?_⟩
                  refine h_three 9 10 11 #[true, true, true, true, true, true, true, true, true, true, false, false, false, false] #[true, true, true, true, true, true, true, true, true, false, true, false, false, false] #[true, true, true, true, true, true, true, true, true, false, false, true, false, false] rfl rfl rfl rfl rfl rfl (by kernel_rfl) ?_ ?_ ?_
                  · skip
                    refine s_call hF rfl rfl rfl Try.call59 (impl_shifted.calls K ((t3.getD (x232 : Int).toNat ((Ar.zero 6), (Ar.zero 6))).2) (wrap64 (t1.1 - x279)) t285 h286) ?_; intro a w v hF hf hR
                    subst hR; have hM := hM.grow hf
                    refine s_nil ⟨rfl, (hM.pick [0, 1, 2] rfl rfl), ?_⟩
                    refine h_two 10 11 #[true, true, true, true, true, true, true, true, true, true, true, false, false, false] #[true, true, true, true, true, true, true, true, true, true, false, true, false, false] rfl rfl rfl rfl (by kernel_rfl) ?_ ?_
                    · skip
                      refine s_alloc (ps := [Pt.ar (Ar.zero 6)]) hF hM rfl rfl zv31 rfl ?_; intro a w b287 hF hM
                      refine s_nil ⟨rfl, (hM.pick [1, 2, 3] rfl rfl), ?_⟩
                      refine h_one 11 #[true, true, true, true, true, true, true, true, true, true, true, true, false, false] rfl (by kernel_rfl) ?_
                      refine s_alloc (ps := [Pt.ar (Ar.zero 6)]) hF hM rfl rfl zv31 rfl ?_; intro a w b288 hF hM
                      refine s_nil ⟨rfl, (hM.pick [2, 3, 4] rfl rfl), ?_⟩
                      refine h_one 12 #[true, true, true, true, true, true, true, true, true, true, true, true, true, false] rfl (by kernel_rfl) ?_
                      refine s_stw (i := 1) (ps' := [Pt.ar t283]) hF hM rfl rfl rfl rfl rfl rfl Try.sizeOf31 rfl ?_; intro a w hF hM
                      refine s_nil ⟨rfl, (hM.pick [2, 3, 4] rfl rfl), ?_⟩
                      refine h_one 13 #[true, true, true, true, true, true, true, true, true, true, true, true, true, true] rfl (by kernel_rfl) ?_
                      refine s_stw (i := 0) (ps' := [Pt.ar t285]) hF hM rfl rfl rfl rfl rfl rfl Try.sizeOf31 rfl ?_; intro a w hF hM
                      refine s_nil ⟨rfl, (hM.pick [2, 3, 4] rfl rfl), ?_⟩
                      exact h_done rfl ⟨rfl, b287, b288, hF.sub _ ⟨rfl, rfl, rfl, rfl, rfl, rfl, rfl, rfl, rfl, rfl, trivial⟩, hM.pick [1, 0, 2, 3, 4] rfl rfl⟩
                    · skip
                      refine s_alloc (ps := [Pt.ar (Ar.zero 6)]) hF hM rfl rfl zv31 rfl ?_; intro a w b288 hF hM
                      refine s_nil ⟨rfl, (hM.pick [1, 2, 3] rfl rfl), ?_⟩
                      refine h_one 10 #[true, true, true, true, true, true, true, true, true, true, true, true, false, false] rfl (by kernel_rfl) ?_
                      refine s_alloc (ps := [Pt.ar (Ar.zero 6)]) hF hM rfl rfl zv31 rfl ?_; intro a w b287 hF hM
                      refine s_nil ⟨rfl, (hM.pick [2, 3, 4] rfl rfl), ?_⟩
                      refine h_one 12 #[true, true, true, true, true, true, true, true, true, true, true, true, true, false] rfl (by kernel_rfl) ?_
                      refine s_stw (i := 0) (ps' := [Pt.ar t283]) hF hM rfl rfl rfl rfl rfl rfl Try.sizeOf31 rfl ?_; intro a w hF hM
                      refine s_nil ⟨rfl, (hM.pick [2, 3, 4] rfl rfl), ?_⟩
                      refine h_one 13 #[true, true, true, true, true, true, true, true, true, true, true, true, true, true] rfl (by kernel_rfl) ?_
                      refine s_stw (i := 1) (ps' := [Pt.ar t285]) hF hM rfl rfl rfl rfl rfl rfl Try.sizeOf31 rfl ?_; intro a w hF hM
                      refine s_nil ⟨rfl, (hM.pick [2, 3, 4] rfl rfl), ?_⟩
                      exact h_done rfl ⟨rfl, b287, b288, hF.sub _ ⟨rfl, rfl, rfl, rfl, rfl, rfl, rfl, rfl, rfl, rfl, trivial⟩, hM.pick [0, 1, 2, 3, 4] rfl rfl⟩
                  · skip
                    refine s_alloc (ps := [Pt.ar (Ar.zero 6)]) hF hM rfl rfl zv31 rfl ?_; intro a w b287 hF hM
                    refine s_nil ⟨rfl, (hM.pick [1, 2, 3] rfl rfl), ?_⟩
                    refine h_two 9 11 #[true, true, true, true, true, true, true, true, true, true, true, false, false, false] #[true, true, true, true, true, true, true, true, true, false, true, true, false, false] rfl rfl rfl rfl (by kernel_rfl) ?_ ?_
                    · skip
                      refine s_call hF rfl rfl rfl Try.call59 (impl_shifted.calls K ((t3.getD (x232 : Int).toNat ((Ar.zero 6), (Ar.zero 6))).2) (wrap64 (t1.1 - x279)) t285 h286) ?_; intro a w v hF hf hR
                      subst hR; have hM := hM.grow hf
                      refine s_nil ⟨rfl, (hM.pick [1, 2, 3] rfl rfl), ?_⟩
                      refine h_one 11 #[true, true, true, true, true, true, true, true, true, true, true, true, false, false] rfl (by kernel_rfl) ?_
                      refine s_alloc (ps := [Pt.ar (Ar.zero 6)]) hF hM rfl rfl zv31 rfl ?_; intro a w b288 hF hM
                      refine s_nil ⟨rfl, (hM.pick [2, 3, 4] rfl rfl), ?_⟩
                      refine h_one 12 #[true, true, true, true, true, true, true, true, true, true, true, true, true, false] rfl (by kernel_rfl) ?_
                      refine s_stw (i := 1) (ps' := [Pt.ar t283]) hF hM rfl rfl rfl rfl rfl rfl Try.sizeOf31 rfl ?_; intro a w hF hM
                      refine s_nil ⟨rfl, (hM.pick [2, 3, 4] rfl rfl), ?_⟩
                      refine h_one 13 #[true, true, true, true, true, true, true, true, true, true, true, true, true, true] rfl (by kernel_rfl) ?_
                      refine s_stw (i := 0) (ps' := [Pt.ar t285]) hF hM rfl rfl rfl rfl rfl rfl Try.sizeOf31 rfl ?_; intro a w hF hM
                      refine s_nil ⟨rfl, (hM.pick [2, 3, 4] rfl rfl), ?_⟩
                      exact h_done rfl ⟨rfl, b287, b288, hF.sub _ ⟨rfl, rfl, rfl, rfl, rfl, rfl, rfl, rfl, rfl, rfl, trivial⟩, hM.pick [1, 0, 2, 3, 4] rfl rfl⟩
                    · skip
                      refine s_alloc (ps := [Pt.ar (Ar.zero 6)]) hF hM rfl rfl zv31 rfl ?_; intro a w b288 hF hM
                      refine s_nil ⟨rfl, (hM.pick [2, 3, 4] rfl rfl), ?_⟩
                      refine h_one 9 #[true, true, true, true, true, true, true, true, true, true, true, true, false, false] rfl (by kernel_rfl) ?_
                      refine s_call hF rfl rfl rfl Try.call59 (impl_shifted.calls K ((t3.getD (x232 : Int).toNat ((Ar.zero 6), (Ar.zero 6))).2) (wrap64 (t1.1 - x279)) t285 h286) ?_; intro a w v hF hf hR
                      subst hR; have hM := hM.grow hf
                      refine s_nil ⟨rfl, (hM.pick [2, 3, 4] rfl rfl), ?_⟩
                      refine h_one 12 #[true, true, true, true, true, true, true, true, true, true, true, true, true, false] rfl (by kernel_rfl) ?_
                      refine s_stw (i := 1) (ps' := [Pt.ar t283]) hF hM rfl rfl rfl rfl rfl rfl Try.sizeOf31 rfl ?_; intro a w hF hM
                      refine s_nil ⟨rfl, (hM.pick [2, 3, 4] rfl rfl), ?_⟩
                      refine h_one 13 #[true, true, true, true, true, true, true, true, true, true, true, true, true, true] rfl (by kernel_rfl) ?_
                      refine s_stw (i := 0) (ps' := [Pt.ar t285]) hF hM rfl rfl rfl rfl rfl rfl Try.sizeOf31 rfl ?_; intro a w hF hM
                      refine s_nil ⟨rfl, (hM.pick [2, 3, 4] rfl rfl), ?_⟩
                      exact h_done rfl ⟨rfl, b287, b288, hF.sub _ ⟨rfl, rfl, rfl, rfl, rfl, rfl, rfl, rfl, rfl, rfl, trivial⟩, hM.pick [1, 0, 2, 3, 4] rfl rfl⟩
                  · skip
                    refine s_alloc (ps := [Pt.ar (Ar.zero 6)]) hF hM rfl rfl zv31 rfl ?_; intro a w b288 hF hM
                    refine s_nil ⟨rfl, (hM.pick [1, 2, 3] rfl rfl), ?_⟩
                    refine h_two 9 10 #[true, true, true, true, true, true, true, true, true, true, false, true, false, false] #[true, true, true, true, true, true, true, true, true, false, true, true, false, false] rfl rfl rfl rfl (by kernel_rfl) ?_ ?_
                    · skip
                      refine s_call hF rfl rfl rfl Try.call59 (impl_shifted.calls K ((t3.getD (x232 : Int).toNat ((Ar.zero 6), (Ar.zero 6))).2) (wrap64 (t1.1 - x279)) t285 h286) ?_; intro a w v hF hf hR
                      subst hR; have hM := hM.grow hf
                      refine s_nil ⟨rfl, (hM.pick [1, 2, 3] rfl rfl), ?_⟩
                      refine h_one 10 #[true, true, true, true, true, true, true, true, true, true, true, true, false, false] rfl (by kernel_rfl) ?_
                      refine s_alloc (ps := [Pt.ar (Ar.zero 6)]) hF hM rfl rfl zv31 rfl ?_; intro a w b287 hF hM
                      refine s_nil ⟨rfl, (hM.pick [2, 3, 4] rfl rfl), ?_⟩
                      refine h_one 12 #[true, true, true, true, true, true, true, true, true, true, true, true, true, false] rfl (by kernel_rfl) ?_
                      refine s_stw (i := 0) (ps' := [Pt.ar t283]) hF hM rfl rfl rfl rfl rfl rfl Try.sizeOf31 rfl ?_; intro a w hF hM
                      refine s_nil ⟨rfl, (hM.pick [2, 3, 4] rfl rfl), ?_⟩
                      refine h_one 13 #[true, true, true, true, true, true, true, true, true, true, true, true, true, true] rfl (by kernel_rfl) ?_
                      refine s_stw (i := 1) (ps' := [Pt.ar t285]) hF hM rfl rfl rfl rfl rfl rfl Try.sizeOf31 rfl ?_; intro a w hF hM
                      refine s_nil ⟨rfl, (hM.pick [2, 3, 4] rfl rfl), ?_⟩
                      exact h_done rfl ⟨rfl, b287, b288, hF.sub _ ⟨rfl, rfl, rfl, rfl, rfl, rfl, rfl, rfl, rfl, rfl, trivial⟩, hM.pick [0, 1, 2, 3, 4] rfl rfl⟩
                    · skip
                      refine s_alloc (ps := [Pt.ar (Ar.zero 6)]) hF hM rfl rfl zv31 rfl ?_; intro a w b287 hF hM
                      refine s_nil ⟨rfl, (hM.pick [2, 3, 4] rfl rfl), ?_⟩
                      refine h_one 9 #[true, true, true, true, true, true, true, true, true, true, true, true, false, false] rfl (by kernel_rfl) ?_
                      refine s_call hF rfl rfl rfl Try.call59 (impl_shifted.calls K ((t3.getD (x232 : Int).toNat ((Ar.zero 6), (Ar.zero 6))).2) (wrap64 (t1.1 - x279)) t285 h286) ?_; intro a w v hF hf hR
                      subst hR; have hM := hM.grow hf
                      refine s_nil ⟨rfl, (hM.pick [2, 3, 4] rfl rfl), ?_⟩
                      refine h_one 12 #[true, true, true, true, true, true, true, true, true, true, true, true, true, false] rfl (by kernel_rfl) ?_
                      refine s_stw (i := 0) (ps' := [Pt.ar t283]) hF hM rfl rfl rfl rfl rfl rfl Try.sizeOf31 rfl ?_; intro a w hF hM
                      refine s_nil ⟨rfl, (hM.pick [2, 3, 4] rfl rfl), ?_⟩
                      refine h_one 13 #[true, true, true, true, true, true, true, true, true, true, true, true, true, true] rfl (by kernel_rfl) ?_
                      refine s_stw (i := 1) (ps' := [Pt.ar t285]) hF hM rfl rfl rfl rfl rfl rfl Try.sizeOf31 rfl ?_; intro a w hF hM
                      refine s_nil ⟨rfl, (hM.pick [2, 3, 4] rfl rfl), ?_⟩
                      exact h_done rfl ⟨rfl, b287, b288, hF.sub _ ⟨rfl, rfl, rfl, rfl, rfl, rfl, rfl, rfl, rfl, rfl, trivial⟩, hM.pick [0, 1, 2, 3, 4] rfl rfl⟩
                · skip
                  refine s_alloc (ps := [Pt.ar (Ar.zero 6)]) hF hM rfl rfl zv31 rfl ?_; intro a w b287 hF hM
                  refine s_nil ⟨rfl, (hM.pick [1, 2, 3] rfl rfl), ?_⟩
                  refine h_two 3 11 #[true, true, true, true, true, true, true, true, true, false, true, false, false, false] #[true, true, true, false, true, true, true, true, true, false, true, true, false, false] rfl rfl rfl rfl (by kernel_rfl) ?_ ?_
                  · skip
                    refine s_call hF rfl rfl rfl Try.call59 (impl_shifted.calls K ((t3.getD (x232 : Int).toNat ((Ar.zero 6), (Ar.zero 6))).1) x279 t283 h284) ?_; intro a w v hF hf hR
                    subst hR; have hM := hM.grow hf
                    refine s_nil ⟨rfl, (hM.pick [1, 2, 3] rfl rfl), ?_⟩
                    refine h_two 9 11 #[true, true, true, true, true, true, true, true, true, true, true, false, false, false] #[true, true, true, true, true, true, true, true, true, false, true, true, false, false] rfl rfl rfl rfl (by kernel_rfl) ?_ ?_
                    · skip
                      refine s_call hF rfl rfl rfl Try.call59 (impl_shifted.calls K ((t3.getD (x232 : Int).toNat ((Ar.zero 6), (Ar.zero 6))).2) (wrap64 (t1.1 - x279)) t285 h286) ?_; intro a w v hF hf hR
                      subst hR; have hM := hM.grow hf
                      refine s_nil ⟨rfl, (hM.pick [1, 2, 3] rfl rfl), ?_⟩
                      refine h_one 11 #[true, true, true, true, true, true, true, true, true, true, true, true, false, false] rfl (by kernel_rfl) ?_
                      refine s_alloc (ps := [Pt.ar (Ar.zero 6)]) hF hM rfl rfl zv31 rfl ?_; intro a w b288 hF hM
                      refine s_nil ⟨rfl, (hM.pick [2, 3, 4] rfl rfl), ?_⟩
                      refine h_one 12 #[true, true, true, true, true, true, true, true, true, true, true, true, true, false] rfl (by kernel_rfl) ?_
                      refine s_stw (i := 1) (ps' := [Pt.ar t283]) hF hM rfl rfl rfl rfl rfl rfl Try.sizeOf31 rfl ?_; intro a w hF hM
                      refine s_nil ⟨rfl, (hM.pick [2, 3, 4] rfl rfl), ?_⟩
                      refine h_one 13 #[true, true, true, true, true, true, true, true, true, true, true, true, true, true] rfl (by kernel_rfl) ?_
                      refine s_stw (i := 0) (ps' := [Pt.ar t285]) hF hM rfl rfl rfl rfl rfl rfl Try.sizeOf31 rfl ?_; intro a w hF hM
                      refine s_nil ⟨rfl, (hM.pick [2, 3, 4] rfl rfl), ?_⟩
                      exact h_done rfl ⟨rfl, b287, b288, hF.sub _ ⟨rfl, rfl, rfl, rfl, rfl, rfl, rfl, rfl, rfl, rfl, trivial⟩, hM.pick [1, 0, 2, 3, 4] rfl rfl⟩
                    · skip
                      refine s_alloc (ps := [Pt.ar (Ar.zero 6)]) hF hM rfl rfl zv31 rfl ?_; intro a w b288 hF hM
                      refine s_nil ⟨rfl, (hM.pick [2, 3, 4] rfl rfl), ?_⟩
                      refine h_one 9 #[true, true, true, true, true, true, true, true, true, true, true, true, false, false] rfl (by kernel_rfl) ?_
                      refine s_call hF rfl rfl rfl Try.call59 (impl_shifted.calls K ((t3.getD (x232 : Int).toNat ((Ar.zero 6), (Ar.zero 6))).2) (wrap64 (t1.1 - x279)) t285 h286) ?_; intro a w v hF hf hR
                      subst hR; have hM := hM.grow hf
                      refine s_nil ⟨rfl, (hM.pick [2, 3, 4] rfl rfl), ?_⟩
                      refine h_one 12 #[true, true, true, true, true, true, true, true, true, true, true, true, true, false] rfl (by kernel_rfl) ?_
                      refine s_stw (i := 1) (ps' := [Pt.ar t283]) hF hM rfl rfl rfl rfl rfl rfl Try.sizeOf31 rfl ?_; intro a w hF hM
                      refine s_nil ⟨rfl, (hM.pick [2, 3, 4] rfl rfl), ?_⟩
                      refine h_one 13 #[true, true, true, true, true, true, true, true, true, true, true, true, true, true] rfl (by kernel_rfl) ?_
                      refine s_stw (i := 0) (ps' := [Pt.ar t285]) hF hM rfl rfl rfl rfl rfl rfl Try.sizeOf31 rfl ?_; intro a w hF hM
                      refine s_nil ⟨rfl, (hM.pick [2, 3, 4] rfl rfl), ?_⟩
                      exact h_done rfl ⟨rfl, b287, b288, hF.sub _ ⟨rfl, rfl, rfl, rfl, rfl, rfl, rfl, rfl, rfl, rfl, trivial⟩, hM.pick [1, 0, 2, 3, 4] rfl rfl⟩
                  · skip
                    refine s_alloc (ps := [Pt.ar (Ar.zero 6)]) hF hM rfl rfl zv31 rfl ?_; intro a w b288 hF hM
                    refine s_nil ⟨rfl, (hM.pick [2, 3, 4] rfl rfl), ?_⟩
                    refine h_one 3 #[true, true, true, true, true, true, true, true, true, false, true, true, false, false] rfl (by kernel_rfl) ?_
                    refine s_call hF rfl rfl rfl Try.call59 (impl_shifted.calls K ((t3.getD (x232 : Int).toNat ((Ar.zero 6), (Ar.zero 6))).1) x279 t283 h284) ?_; intro a w v hF hf hR
                    subst hR; have hM := hM.grow hf
                    refine s_nil ⟨rfl, (hM.pick [2, 3, 4] rfl rfl), ?_⟩
                    refine h_one 9 #[true, true, true, true, true, true, true, true, true, true, true, true, false, false] rfl (by kernel_rfl) ?_
                    refine s_call hF rfl rfl rfl Try.call59 (impl_shifted.calls K ((t3.getD (x232 : Int).toNat ((Ar.zero 6), (Ar.zero 6))).2) (wrap64 (t1.1 - x279)) t285 h286) ?_; intro a w v hF hf hR
                    subst hR; have hM := hM.grow hf
                    refine s_nil ⟨rfl, (hM.pick [2, 3, 4] rfl rfl), ?_⟩
                    refine h_one 12 #[true, true, true, true, true, true, true, true, true, true, true, true, true, false] rfl (by kernel_rfl) ?_
                    refine s_stw (i := 1) (ps' := [Pt.ar t283]) hF hM rfl rfl rfl rfl rfl rfl Try.sizeOf31 rfl ?_; intro a w hF hM
                    refine s_nil ⟨rfl, (hM.pick [2, 3, 4] rfl rfl), ?_⟩
                    refine h_one 13 #[true, true, true, true, true, true, true, true, true, true, true, true, true, true] rfl (by kernel_rfl) ?_
                    refine s_stw (i := 0) (ps' := [Pt.ar t285]) hF hM rfl rfl rfl rfl rfl rfl Try.sizeOf31 rfl ?_; intro a w hF hM
                    refine s_nil ⟨rfl, (hM.pick [2, 3, 4] rfl rfl), ?_⟩
                    exact h_done rfl ⟨rfl, b287, b288, hF.sub _ ⟨rfl, rfl, rfl, rfl, rfl, rfl, rfl, rfl, rfl, rfl, trivial⟩, hM.pick [1, 0, 2, 3, 4] rfl rfl⟩
                · skip
                  refine s_alloc (ps := [Pt.ar (Ar.zero 6)]) hF hM rfl rfl zv31 rfl ?_; intro a w b288 hF hM
                  refine s_nil ⟨rfl, (hM.pick [1, 2, 3] rfl rfl), ?_⟩
                  refine h_two 3 10 #[true, true, true, true, true, true, true, true, true, false, false, true, false, false] #[true, true, true, false, true, true, true, true, true, false, true, true, false, false] rfl rfl rfl rfl (by kernel_rfl) ?_ ?_
                  · skip
                    refine s_call hF rfl rfl rfl Try.call59 (impl_shifted.calls K ((t3.getD (x232 : Int).toNat ((Ar.zero 6), (Ar.zero 6))).1) x279 t283 h284) ?_; intro a w v hF hf hR
                    subst hR; have hM := hM.grow hf
                    refine s_nil ⟨rfl, (hM.pick [1, 2, 3] rfl rfl), ?_⟩
                    refine h_two 9 10 #[true, true, true, true, true, true, true, true, true, true, false, true, false, false] #[true, true, true, true, true, true, true, true, true, false, true, true, false, false] rfl rfl rfl rfl (by kernel_rfl) ?_ ?_
                    · skip
                      refine s_call hF rfl rfl rfl Try.call59 (impl_shifted.calls K ((t3.getD (x232 : Int).toNat ((Ar.zero 6), (Ar.zero 6))).2) (wrap64 (t1.1 - x279)) t285 h286) ?_; intro a w v hF hf hR
                      subst hR; have hM := hM.grow hf
                      refine s_nil ⟨rfl, (hM.pick [1, 2, 3] rfl rfl), ?_⟩
                      refine h_one 10 #[true, true, true, true, true, true, true, true, true, true, true, true, false, false] rfl (by kernel_rfl) ?_
                      refine s_alloc (ps := [Pt.ar (Ar.zero 6)]) hF hM rfl rfl zv31 rfl ?_; intro a w b287 hF hM
                      refine s_nil ⟨rfl, (hM.pick [2, 3, 4] rfl rfl), ?_⟩
                      refine h_one 12 #[true, true, true, true, true, true, true, true, true, true, true, true, true, false] rfl (by kernel_rfl) ?_
                      refine s_stw (i := 0) (ps' := [Pt.ar t283]) hF hM rfl rfl rfl rfl rfl rfl Try.sizeOf31 rfl ?_; intro a w hF hM
                      refine s_nil ⟨rfl, (hM.pick [2, 3, 4] rfl rfl), ?_⟩
                      refine h_one 13 #[true, true, true, true, true, true, true, true, true, true, true, true, true, true] rfl (by kernel_rfl) ?_
                      refine s_stw (i := 1) (ps' := [Pt.ar t285]) hF hM rfl rfl rfl rfl rfl rfl Try.sizeOf31 rfl ?_; intro a w hF hM
                      refine s_nil ⟨rfl, (hM.pick [2, 3, 4] rfl rfl), ?_⟩
                      exact h_done rfl ⟨rfl, b287, b288, hF.sub _ ⟨rfl, rfl, rfl, rfl, rfl, rfl, rfl, rfl, rfl, rfl, trivial⟩, hM.pick [0, 1, 2, 3, 4] rfl rfl⟩
                    · skip
                      refine s_alloc (ps := [Pt.ar (Ar.zero 6)]) hF hM rfl rfl zv31 rfl ?_; intro a w b287 hF hM
                      refine s_nil ⟨rfl, (hM.pick [2, 3, 4] rfl rfl), ?_⟩
                      refine h_one 9 #[true, true, true, true, true, true, true, true, true, true, true, true, false, false] rfl (by kernel_rfl) ?_
                      refine s_call hF rfl rfl rfl Try.call59 (impl_shifted.calls K ((t3.getD (x232 : Int).toNat ((Ar.zero 6), (Ar.zero 6))).2) (wrap64 (t1.1 - x279)) t285 h286) ?_; intro a w v hF hf hR
                      subst hR; have hM := hM.grow hf
                      refine s_nil ⟨rfl, (hM.pick [2, 3, 4] rfl rfl), ?_⟩
                      refine h_one 12 #[true, true, true, true, true, true, true, true, true, true, true, true, true, false] rfl (by kernel_rfl) ?_
                      refine s_stw (i := 0) (ps' := [Pt.ar t283]) hF hM rfl rfl rfl rfl rfl rfl Try.sizeOf31 rfl ?_; intro a w hF hM
                      refine s_nil ⟨rfl, (hM.pick [2, 3, 4] rfl rfl), ?_⟩
                      refine h_one 13 #[true, true, true, true, true, true, true, true, true, true, true, true, true, true] rfl (by kernel_rfl) ?_
                      refine s_stw (i := 1) (ps' := [Pt.ar t285]) hF hM rfl rfl rfl rfl rfl rfl Try.sizeOf31 rfl ?_; intro a w hF hM
                      refine s_nil ⟨rfl, (hM.pick [2, 3, 4] rfl rfl), ?_⟩
                      exact h_done rfl ⟨rfl, b287, b288, hF.sub _ ⟨rfl, rfl, rfl, rfl, rfl, rfl, rfl, rfl, rfl, rfl, trivial⟩, hM.pick [0, 1, 2, 3, 4] rfl rfl⟩
                  · skip
                    refine s_alloc (ps := [Pt.ar (Ar.zero 6)]) hF hM rfl rfl zv31 rfl ?_; intro a w b287 hF hM
                    refine s_nil ⟨rfl, (hM.pick [2, 3, 4] rfl rfl), ?_⟩
                    refine h_one 3 #[true, true, true, true, true, true, true, true, true, false, true, true, false, false] rfl (by kernel_rfl) ?_
                    refine s_call hF rfl rfl rfl Try.call59 (impl_shifted.calls K ((t3.getD (x232 : Int).toNat ((Ar.zero 6), (Ar.zero 6))).1) x279 t283 h284) ?_; intro a w v hF hf hR
                    subst hR; have hM := hM.grow hf
                    refine s_nil ⟨rfl, (hM.pick [2, 3, 4] rfl rfl), ?_⟩
                    refine h_one 9 #[true, true, true, true, true, true, true, true, true, true, true, true, false, false] rfl (by kernel_rfl) ?_
                    refine s_call hF rfl rfl rfl Try.call59 (impl_shifted.calls K ((t3.getD (x232 : Int).toNat ((Ar.zero 6), (Ar.zero 6))).2) (wrap64 (t1.1 - x279)) t285 h286) ?_; intro a w v hF hf hR
                    subst hR; have hM := hM.grow hf
                    refine s_nil ⟨rfl, (hM.pick [2, 3, 4] rfl rfl), ?_⟩
                    refine h_one 12 #[true, true, true, true, true, true, true, true, true, true, true, true, true, false] rfl (by kernel_rfl) ?_
                    refine s_stw (i := 0) (ps' := [Pt.ar t283]) hF hM rfl rfl rfl rfl rfl rfl Try.sizeOf31 rfl ?_; intro a w hF hM
                    refine s_nil ⟨rfl, (hM.pick [2, 3, 4] rfl rfl), ?_⟩
                    refine h_one 13 #[true, true, true, true, true, true, true, true, true, true, true, true, true, true] rfl (by kernel_rfl) ?_
                    refine s_stw (i := 1) (ps' := [Pt.ar t285]) hF hM rfl rfl rfl rfl rfl rfl Try.sizeOf31 rfl ?_; intro a w hF hM
                    refine s_nil ⟨rfl, (hM.pick [2, 3, 4] rfl rfl), ?_⟩
                    exact h_done rfl ⟨rfl, b287, b288, hF.sub _ ⟨rfl, rfl, rfl, rfl, rfl, rfl, rfl, rfl, rfl, rfl, trivial⟩, hM.pick [0, 1, 2, 3, 4] rfl rfl⟩
              rintro e a w ⟨rfl, b287, b288, hF, hM⟩
              refine then_n ?_
              refine wp_seq ?_
              obtain ⟨t289, h290, H⟩ := bind_some H
              rcases ite_cases H with ⟨c291, H⟩ | ⟨c291, H⟩
              ·
                obtain ⟨t292, h293, H⟩ := bind_some H
                refine s_region ?_
                refine s_val hF rfl rfl rfl (e_lda (i := 0) 0 1 hF hM rfl rfl rfl rfl Try.isAgg31 Try.sizeOf31 rfl) ?_; intro a hF
                refine s_call hF rfl rfl rfl Try.call39 (impl_IsDie.calls K t283 t289 h290) ?_; intro a w v hF hf hR
                subst hR; have hM := hM.grow hf
                refine s_val hF rfl rfl rfl (e_move hF rfl) ?_; intro a hF
                have hF := hF.topb c291
                refine s_val hF rfl rfl rfl (e_lda (i := 1) 0 1 hF hM rfl rfl rfl rfl Try.isAgg31 Try.sizeOf31 rfl) ?_; intro a hF
                refine s_call hF rfl rfl rfl Try.call39 (impl_IsDie.calls K t285 t292 h293) ?_; intro a w v hF hf hR
                subst hR; have hM := hM.grow hf
                refine s_val hF rfl rfl rfl (e_pick_t hF rfl rfl) ?_; intro a hF
                refine s_nil ?_
                refine then_n ?_
                rcases ite_cases H with ⟨c294, H⟩ | ⟨c294, H⟩
                ·
                  refine s_cond_t hF rfl c294 ?_
                  obtain ⟨t295, h296, H⟩ := bind_some H
                  obtain ⟨c299, H⟩ := ite_some H
                  refine s_region ?_
                  refine s_val hF rfl rfl rfl (e_move hF rfl) ?_; intro a hF
                  refine s_val hF rfl rfl rfl (e_lda (i := 0) 0 1 hF hM rfl rfl rfl rfl Try.isAgg31 Try.sizeOf31 rfl) ?_; intro a hF
                  refine s_val hF rfl rfl rfl (e_lda (i := 1) 0 1 hF hM rfl rfl rfl rfl Try.isAgg31 Try.sizeOf31 rfl) ?_; intro a hF
                  refine s_call hF rfl rfl rfl Try.call46 (impl_pairOf.calls K t283 t285 t295 h296) ?_; intro a w v hF hf hR
                  subst hR; have hM := hM.grow hf
                  refine s_bsl (C := cd50) [t295] cdok50 hF hM rfl rfl rfl rfl Try.underlying37 rfl ?_; intro a w v297 hF hM
                  refine s_append (i := 3) cdok50 hF hM rfl rfl rfl rfl rfl (hM.sl 0 rfl) Try.underlying37 c299 ?_; intro a w v298 hF hM
                  refine s_val hF rfl rfl rfl (e_assign hF rfl) ?_; intro a hF
                  refine s_nil ?_
                  refine blk_n ?_
                  refine then_n ?_
                  refine s_region ?_
                  refine s_val hF rfl rfl rfl (e_add hF rfl rfl) ?_; intro a hF
                  refine s_val hF rfl rfl rfl (e_move hF rfl) ?_; intro a hF
                  refine s_nil ?_
                  refine then_n ?_
                  exact ⟨v298, (wrap64 (x279 + 1)), (x281 ++ [t295]), H, hF.sub _ ⟨rfl, rfl, rfl, rfl, rfl, rfl, rfl, rfl, trivial⟩, hM.pick [3, 4, 5] rfl rfl⟩
                ·
                  refine s_cond_f hF rfl (bf c294) ?_
                  refine wp_skip ?_
                  refine blk_n ?_
                  refine then_n ?_
                  refine s_region ?_
                  refine s_val hF rfl rfl rfl (e_add hF rfl rfl) ?_; intro a hF
                  refine s_val hF rfl rfl rfl (e_move hF rfl) ?_; intro a hF
                  refine s_nil ?_
                  refine then_n ?_
                  exact ⟨v280, (wrap64 (x279 + 1)), x281, H, hF.sub _ ⟨rfl, rfl, rfl, rfl, rfl, rfl, rfl, rfl, trivial⟩, hM.pick [2, 3, 4] rfl rfl⟩
              ·
                refine s_region ?_
                refine s_val hF rfl rfl rfl (e_lda (i := 0) 0 1 hF hM rfl rfl rfl rfl Try.isAgg31 Try.sizeOf31 rfl) ?_; intro a hF
                refine s_call hF rfl rfl rfl Try.call39 (impl_IsDie.calls K t283 t289 h290) ?_; intro a w v hF hf hR
                subst hR; have hM := hM.grow hf
                refine s_val hF rfl rfl rfl (e_move hF rfl) ?_; intro a hF
                have hF := hF.topb (bf c291)
                refine s_skip hF rfl rfl rfl ?_; intro a hF
                refine s_skip hF rfl rfl rfl ?_; intro a hF
                refine s_val hF rfl rfl rfl (e_pick_f hF rfl rfl) ?_; intro a hF
                refine s_nil ?_
                refine then_n ?_
                refine s_cond_f hF rfl rfl ?_
                refine wp_skip ?_
                refine blk_n ?_
                refine then_n ?_
                refine s_region ?_
                refine s_val hF rfl rfl rfl (e_add hF rfl rfl) ?_; intro a hF
                refine s_val hF rfl rfl rfl (e_move hF rfl) ?_; intro a hF
                refine s_nil ?_
                refine then_n ?_
                exact ⟨v280, (wrap64 (x279 + 1)), x281, H, hF.sub _ ⟨rfl, rfl, rfl, rfl, rfl, rfl, rfl, rfl, trivial⟩, hM.pick [2, 3, 4] rfl rfl⟩
            ·
              refine s_cond_f hF rfl (decide_eq_false c282) ?_
              refine wp_exit ?_
              refine then_x ?_
              refine then_x ?_
              exact ⟨rfl, v280, x281, some_some H, hF.sub _ ⟨rfl, rfl, rfl, rfl, rfl, trivial⟩, hM.pick [0, 2] rfl rfl⟩
        · rintro e a w ⟨rfl, v277, x278, rfl, hF, hM⟩
          skip
          refine blk_x ?_
          refine blk_n ?_
          refine then_n ?_
          refine s_region ?_
          refine s_val hF rfl rfl rfl (e_add hF rfl rfl) ?_; intro a hF
          refine s_val hF rfl rfl rfl (e_move hF rfl) ?_; intro a hF
          refine s_nil ?_
          refine then_n ?_
          exact ⟨v277, (wrap64 (x232 + 1)), x278, H, hF.sub _ ⟨rfl, rfl, rfl, rfl, rfl, trivial⟩, hM.pick [0, 1] rfl rfl⟩
      ·
        refine s_cond_f hF rfl (decide_eq_false c235) ?_
        refine wp_exit ?_
        refine then_x ?_
        refine then_x ?_
        exact ⟨rfl, v233, x234, some_some H, hF.sub _ ⟨rfl, trivial⟩, hM.pick [0] rfl rfl⟩
  · rintro e a w ⟨rfl, v230, x231, rfl, hF, hM⟩
    skip
    refine blk_x ?_
    refine then_n ?_
    refine wp_seq ?_
    obtain ⟨t304, h305, H⟩ := bind_some H
    refine s_region ?_
    refine s_val hF rfl rfl rfl (e_move hF rfl) ?_; intro a hF
    refine s_callx hF rfl rfl rfl Try.call48 (impl_sorted.calls K x231 v230 (hM.lend [0] rfl rfl) t304 h305) ?_; intro a w v hF hR
    obtain ⟨v306, hR, rfl⟩ := hR; have hM := hM.back [0] [] (by decide) rfl rfl hR
    refine s_val hF rfl rfl rfl (e_assign hF rfl) ?_; intro a hF
    refine s_nil ?_
    refine then_n ?_
    refine wp_ret ?_
    obtain rfl := some_some H
    refine s_ret [v306] hF Try.results41 ⟨rfl, trivial⟩ ?_
    exact ⟨_, rfl, hM.frm, hM.give 0 rfl⟩

/-! ### loop.example/g01210/impl.base: function 47 -/
def impl_base.f (K : Nat) (a0 : (Ar 6)) : Option (Ar 6) := (impl_shifted.f K a0 (wrap64 (0 - (a0.get 0)))).bind fun t3 => some t3
set_option maxRecDepth 100000 in
set_option maxHeartbeats 4000000 in
theorem impl_base.calls {w0 : World} (K : Nat) (a0 : (Ar 6)) (r : (Ar 6)) (H : impl_base.f K a0 = some r) : Calls Try.prog 47 [ag [Pt.ar a0]].toArray w0 (Post w0 fun w v => v = ag [Pt.ar r]) := by
  rw [impl_base.f] at H
  refine s_start Try.func47 rfl Try.ntmps47 rfl ?_
  intro a hF
  have hM := Ms.start w0
  skip
  refine wp_seq ?_
  refine s_region ?_
  refine s_box (ps := [Pt.ar a0]) hF hM rfl rfl rfl rfl ?_; intro a w b1 hF hM
  refine s_alloc (ps := [Pt.ar (Ar.zero 6)]) hF hM rfl rfl zv31 rfl ?_; intro a w b2 hF hM
  refine s_nil ?_
  refine then_n ?_
  refine wp_seq ?_
  obtain ⟨t3, h4, H⟩ := bind_some H
  refine s_region ?_
  refine s_val hF rfl rfl rfl (e_lda (i := 1) 0 1 hF hM rfl rfl rfl rfl Try.isAgg31 Try.sizeOf31 rfl) ?_; intro a hF
  refine s_val hF rfl rfl rfl (e_ia hF rfl rfl Try.underlying31 Try.sizeOf3 (by decide) (by decide)) ?_; intro a hF
  refine s_val hF rfl rfl rfl (e_ldi (i := 1) (k := 0) hF hM rfl rfl rfl rfl rfl Try.isAgg3 (by decide) (by decide)) ?_; intro a hF
  refine s_val hF rfl rfl rfl (e_neg hF rfl) ?_; intro a hF
  refine s_call hF rfl rfl rfl Try.call59 (impl_shifted.calls K a0 (wrap64 (0 - (a0.get 0))) t3 h4) ?_; intro a w v hF hf hR
  subst hR; have hM := hM.grow hf
  refine s_stw (i := 0) (ps' := [Pt.ar t3]) hF hM rfl rfl rfl rfl rfl rfl Try.sizeOf31 rfl ?_; intro a w hF hM
  refine s_nil ?_
  refine then_n ?_
  refine wp_ret ?_
  obtain rfl := some_some H
  refine s_ret [ag [Pt.ar t3]] hF Try.results47 ⟨⟨_, rfl, rv_box hM (i := 0) rfl Try.isAgg31 Try.sizeOf31 rfl⟩, trivial⟩ ?_
  exact ⟨_, rfl, hM.frm, rfl⟩

end Go.Proofs.Ytlcogkfjjlclmaa.WShapesLike

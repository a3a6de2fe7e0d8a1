/- The law FnExactCompanionOf answers true for every input that the statement lets in. Conditions: none beyond the statement's own. -/
import Derived.Test.YtlcogkfjjlclmaaRows
import Derived.Test.YtlcogkfjjlclmaaPCompanionOf
import Derived.WalkKit
import Derived.ProofKit
import Derived.OpenShut
import Derived.ShutString
import Derived.ChangeOld
import Derived.Below
import Derived.SizedLaws
namespace Go.Proofs.Ytlcogkfjjlclmaa.fnExactCompanionOf
open Go.K Go.RowKit Go.ChangeShapes Go.WideShapes Go.ChangeAt
set_option linter.unusedVariables false
theorem own : ownKnob Try.prog.godebug = none := by kernel_rfl
theorem laid : laidOutB Try.prog = true := by kernel_rfl
set_option maxRecDepth 100000 in
theorem lifted (os : Os) (started : os.Started) (H : Type) (enc : TypeId × Value → H) :
    ReturnsInHanded {} Try.checked os 4 .any (Rows.fnExactCompanionOfSpec.pre6 enc Try.prog Try.f4 Rows.fnExactCompanionOfRow.domain false) (Rows.fnExactCompanionOfSpec.post enc Try.prog Try.f4 false true false false) := by
  refine returnsInHanded_of_change_sized (C := Try.checked) own started (by kernel_rfl) Try.func4
    (ChangeSpec.witness6 (enc := enc) (C := Try.checked) false ⟨#[], #[.agg #[.int .i64 0, .int .i64 0, .int .i64 0, .int .i64 0, .int .i64 0, .int .i64 0], .slice none 0 0], []⟩ 8 (by kernel_rfl) (by kernel_rfl) (by kernel_rfl) (by kernel_rfl)) ?_
  intro W base args ds gs before hval0 hW hcnd hsz0 _
  have hsz : (DataW.weightsEach Try.prog (Try.f4.params.toList ++ Rows.fnExactCompanionOfSpec.plain.varTypes Try.prog) (ds ++ gs)).all (· ≤ reachBytes) = true := hsz0
  have hval : ∀ (j : Nat) t v, Try.f4.params[j]? = some t → args[j]? = some v → Value.okWide Try.prog W .any base t v := hval0
  have hW' := hW
  obtain ⟨p, q, hA0, hV, rfl, hfz, hnd⟩ := hW
  have hA : DataW.TrodAll enc Try.prog W 0 (fun _ => true) true Try.f4.params.toList args.toList ds p := hA0
  rw [Try.params4] at hA hval hsz
  obtain ⟨v0, vs0, d0, ds0, p0, q0, hargs, rfl, rfl, h0, r0⟩ := trodAll_cons hA
  obtain ⟨v1, vs1, d1, ds1, p1, q1, rfl, rfl, rfl, h1, r1⟩ := trodAll_cons r0
  obtain ⟨rfl, rfl, rfl⟩ := trodAll_nil r1
  obtain rfl : args = #[v0, v1] := by cases args; simp_all
  obtain ⟨rfl, rfl⟩ := trodVars_none hV
  obtain ⟨a0, rfl, w0⟩ := Go.K.open_ar Try.underlying31 Try.underlying3 (by kernel_rfl) (by kernel_rfl) (hval 0 31 v0 rfl rfl) h0
  have hlt0 : ∀ x ∈ p0, x.block < W.heap.size := fun x hx => hW'.lt x (by simp [hx])
  obtain ⟨l1, s1, m1, w1⟩ := Go.K.open_sl Go.Proofs.Ytlcogkfjjlclmaa.WCompanionOf.cd31 (fun z => ∀ y ∈ z.l, (Lit.int .i64 y).wf = true) (fun _ _ _ h => core_ar Try.underlying31 Try.underlying3 (by kernel_rfl) (by kernel_rfl) h) (by kernel_rfl) Try.underlying22 (hval 1 22 v1 rfl rfl) h1
  have hlt1 : ∀ x ∈ p1, x.block < W.heap.size := fun x hx => hW'.lt x (by simp [hx])
  clear hA0 hval0 hsz0 hsz
  obtain ⟨K, hK⟩ := Go.Proofs.Ytlcogkfjjlclmaa.WCompanionOf.CompanionOf_pure a0 l1 w0 m1 w1
  refine (Go.Proofs.Ytlcogkfjjlclmaa.WCompanionOf.laws_FnExactCompanionOf.calls K a0 l1 v1 s1 true hK).mono fun e W' ⟨v, he, hf, hv⟩ => ?_
  have bel := hf.below
  subst hv; subst he
  exact ⟨_, rfl, _, _, _, [], _, [], hW', trodAll_mk1 (shut_bool Try.underlying4 _), (trodAll_cons_mk (Below.trod laid (by kernel_rfl) (of_decide_eq_true (by kernel_rfl)) h0 bel hlt0) (trodAll_cons_mk (Below.trod laid (by kernel_rfl) (of_decide_eq_true (by kernel_rfl)) h1 bel hlt1) trodAll_mk0)), rfl, bel.frame _, fun h => by cases h⟩
theorem over : Rows.fnExactCompanionOfRow.holds Try.pinned (OpenSpec.ofChange Rows.fnExactCompanionOfSpec) :=
  OpenClaim.holds_of_wide 4 Try.f4 rfl rfl rfl rfl rfl rfl rfl ⟨rfl, rfl, rfl, rfl, rfl⟩ rfl rfl rfl rfl rfl (by kernel_rfl) Try.func4 (by kernel_rfl)
    (of_decide_eq_true (by kernel_rfl)) (by unfold Func.isWrapper; first | (rw [if_pos (by decide +kernel)]; kernel_rfl) | (rw [if_neg (by decide +kernel)]; exact ⟨rfl, rfl⟩))
    (fun os started H enc _ => lifted os started H enc)
theorem proved : Rows.FnExactCompanionOfSaid := over
end Go.Proofs.Ytlcogkfjjlclmaa.fnExactCompanionOf
namespace Go.Proofs.Ytlcogkfjjlclmaa
/-- The given statement. -/
theorem fnExactCompanionOf_holds : Rows.FnExactCompanionOfSaid := fnExactCompanionOf.proved
#print axioms fnExactCompanionOf_holds
end Go.Proofs.Ytlcogkfjjlclmaa

/- The law FnExactShapesLike answers true for every input that the statement lets in. Conditions: none beyond the statement's own. -/
import Derived.Test.YtlcogkfjjlclmaaRows
import Derived.Test.YtlcogkfjjlclmaaPShapesLike
import Derived.WalkKit
import Derived.ProofKit
import Derived.OpenShut
import Derived.ShutString
import Derived.ChangeOld
import Derived.Below
import Derived.SizedLaws
namespace Go.Proofs.Ytlcogkfjjlclmaa.fnExactShapesLike
open Go.K Go.RowKit Go.ChangeShapes Go.WideShapes Go.ChangeAt
set_option linter.unusedVariables false
theorem own : ownKnob Try.prog.godebug = none := by kernel_rfl
theorem laid : laidOutB Try.prog = true := by kernel_rfl
set_option maxRecDepth 100000 in
theorem lifted (os : Os) (started : os.Started) (H : Type) (enc : TypeId × Value → H) :
    ReturnsInHanded {} Try.checked os 6 .any (Rows.fnExactShapesLikeSpec.pre6 enc Try.prog Try.f6 Rows.fnExactShapesLikeRow.domain false) (Rows.fnExactShapesLikeSpec.post enc Try.prog Try.f6 false true false false) := by
  refine returnsInHanded_of_change_sized (C := Try.checked) own started (by kernel_rfl) Try.func6
    (ChangeSpec.witness6 (enc := enc) (C := Try.checked) false ⟨#[], #[.slice none 0 0], []⟩ 8 (by kernel_rfl) (by kernel_rfl) (by kernel_rfl) (by kernel_rfl)) ?_
  intro W base args ds gs before hval0 hW hcnd hsz0 _
  have hsz : (DataW.weightsEach Try.prog (Try.f6.params.toList ++ Rows.fnExactShapesLikeSpec.plain.varTypes Try.prog) (ds ++ gs)).all (· ≤ reachBytes) = true := hsz0
  have hval : ∀ (j : Nat) t v, Try.f6.params[j]? = some t → args[j]? = some v → Value.okWide Try.prog W .any base t v := hval0
  have hW' := hW
  obtain ⟨p, q, hA0, hV, rfl, hfz, hnd⟩ := hW
  have hA : DataW.TrodAll enc Try.prog W 0 (fun _ => true) true Try.f6.params.toList args.toList ds p := hA0
  rw [Try.params6] at hA hval hsz
  obtain ⟨v0, vs0, d0, ds0, p0, q0, hargs, rfl, rfl, h0, r0⟩ := trodAll_cons hA
  obtain ⟨rfl, rfl, rfl⟩ := trodAll_nil r0
  obtain rfl : args = #[v0] := by cases args; simp_all
  obtain ⟨rfl, rfl⟩ := trodVars_none hV
  obtain ⟨l0, s0, m0, w0⟩ := Go.K.open_sl Go.Proofs.Ytlcogkfjjlclmaa.WShapesLike.cd31 (fun z => ∀ y ∈ z.l, (Lit.int .i64 y).wf = true) (fun _ _ _ h => core_ar Try.underlying31 Try.underlying3 (by kernel_rfl) (by kernel_rfl) h) (by kernel_rfl) Try.underlying22 (hval 0 22 v0 rfl rfl) h0
  have hlt0 : ∀ x ∈ p0, x.block < W.heap.size := fun x hx => hW'.lt x (by simp [hx])
  clear hA0 hval0 hsz0 hsz
  obtain ⟨K, hK⟩ := Go.Proofs.Ytlcogkfjjlclmaa.WShapesLike.ShapesLike_pure l0 m0 w0
  refine (Go.Proofs.Ytlcogkfjjlclmaa.WShapesLike.laws_FnExactShapesLike.calls K l0 v0 s0 true hK).mono fun e W' ⟨v, he, hf, hv⟩ => ?_
  have bel := hf.below
  subst hv; subst he
  exact ⟨_, rfl, _, _, _, [], _, [], hW', trodAll_mk1 (shut_bool Try.underlying4 _), (trodAll_cons_mk (Below.trod laid (by kernel_rfl) (of_decide_eq_true (by kernel_rfl)) h0 bel hlt0) trodAll_mk0), rfl, bel.frame _, fun h => by cases h⟩
theorem over : Rows.fnExactShapesLikeRow.holds Try.pinned (OpenSpec.ofChange Rows.fnExactShapesLikeSpec) :=
  OpenClaim.holds_of_wide 6 Try.f6 rfl rfl rfl rfl rfl rfl rfl ⟨rfl, rfl, rfl, rfl, rfl⟩ rfl rfl rfl rfl rfl (by kernel_rfl) Try.func6 (by kernel_rfl)
    (of_decide_eq_true (by kernel_rfl)) (by unfold Func.isWrapper; first | (rw [if_pos (by decide +kernel)]; kernel_rfl) | (rw [if_neg (by decide +kernel)]; exact ⟨rfl, rfl⟩))
    (fun os started H enc _ => lifted os started H enc)
theorem proved : Rows.FnExactShapesLikeSaid := over
end Go.Proofs.Ytlcogkfjjlclmaa.fnExactShapesLike
namespace Go.Proofs.Ytlcogkfjjlclmaa
/-- The given statement. -/
theorem fnExactShapesLike_holds : Rows.FnExactShapesLikeSaid := fnExactShapesLike.proved
#print axioms fnExactShapesLike_holds
end Go.Proofs.Ytlcogkfjjlclmaa

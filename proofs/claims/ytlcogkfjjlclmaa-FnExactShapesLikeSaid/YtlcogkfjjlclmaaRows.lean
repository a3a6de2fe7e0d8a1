/-
  No cell of these rows narrows 'for every input' (looked for: loops, veiled, ifaces, maps, wideKeys, modest, calm, conditions, laid).
  DERIVED. THE GIVEN ROWS OF THIS SEAT. 5 by the template 'for every input the law returns true; each argument reads behind the call as it read before'; 0 by the template 'total and deterministic' (their statements: YtlcogkfjjlclmaaTotals.lean).
  GIVEN WITH THE SEED: the statements are not yours to turn. If you find one false, say at which input.
  Laid BY PROGRAM, IN A SANDBOX (cutbox-rows.mjs): the forced cells as the released guide's own fill.sh prints them over the translation 7c0b0b59b3141ed3… (all of the seat's roots in one cut). By AI agents, Wed Nov 11 2026. No macro, syntax, notation, axiom, sorry.
-/
import Derived.Test.YtlcogkfjjlclmaaChecked
import GoSem.Claim
import GoSem.ClaimJoined
import GoSem.ClaimMapViews
import Derived.JoinedTies
import Derived.KernelRfl
namespace Go.Proofs.Ytlcogkfjjlclmaa
/- THE CELL 'sum', in the pinned program and in every row, IS THE sha256 OF THE DUMP (.gsa) THAT YtlcogkfjjlclmaaProg.lean LOADS. Nothing in Lean hashes anything: it is a label: what it is worth is what the hold of that sum in a sandbox is worth. -/
noncomputable def Try.pinned : Pinned := { name := "ytlcogkfjjlclmaa", sum := "7c0b0b59b3141ed3fa9a92b1a0790d7767bc045892ec171fb7cfd21d2116a376", checked := Try.checked }
namespace Rows
def none {H : Type} : Left H := { results := [], args := [] }

/-- 'laws.FnExactEvenChance': WHATEVER THE INPUT: true; the input reads as it did. -/
def fnExactEvenChanceSpec : ChangeSpec := { name := "fnExactEvenChance", fn := fun _ => fun
  | [d] => { results := [.lit (.bool true)], args := [d] }
  | _ => none }
def fnExactEvenChanceRow : OpenClaim := { program := "ytlcogkfjjlclmaa", sum := "7c0b0b59b3141ed3fa9a92b1a0790d7767bc045892ec171fb7cfd21d2116a376", func := "loop.example/g01210/laws.FnExactEvenChance", spec := "fnExactEvenChance", unfollowed := true, recurses := true, apart := false }
def FnExactEvenChanceSaid : Prop := fnExactEvenChanceRow.holds Try.pinned (OpenSpec.ofChange fnExactEvenChanceSpec)

/-- ITS FALSE NEIGHBOUR: 'it returns false'. Refute it at one input. -/
def fnExactEvenChanceWrong : ChangeSpec := { name := "fnExactEvenChance", fn := fun _ => fun
  | [d] => { results := [.lit (.bool false)], args := [d] }
  | _ => none }
def FnExactEvenChanceWrongFalsely : Prop := fnExactEvenChanceRow.holds Try.pinned (OpenSpec.ofChange fnExactEvenChanceWrong)

/-- 'laws.FnExactCompanionOf': WHATEVER THE INPUT: true; the input reads as it did. -/
def fnExactCompanionOfSpec : ChangeSpec := { name := "fnExactCompanionOf", fn := fun _ => fun
  | [d1, d2] => { results := [.lit (.bool true)], args := [d1, d2] }
  | _ => none }
def fnExactCompanionOfRow : OpenClaim := { program := "ytlcogkfjjlclmaa", sum := "7c0b0b59b3141ed3fa9a92b1a0790d7767bc045892ec171fb7cfd21d2116a376", func := "loop.example/g01210/laws.FnExactCompanionOf", spec := "fnExactCompanionOf", unfollowed := true, recurses := true, apart := false }
def FnExactCompanionOfSaid : Prop := fnExactCompanionOfRow.holds Try.pinned (OpenSpec.ofChange fnExactCompanionOfSpec)

/-- ITS FALSE NEIGHBOUR: 'it returns false'. Refute it at one input. -/
def fnExactCompanionOfWrong : ChangeSpec := { name := "fnExactCompanionOf", fn := fun _ => fun
  | [d1, d2] => { results := [.lit (.bool false)], args := [d1, d2] }
  | _ => none }
def FnExactCompanionOfWrongFalsely : Prop := fnExactCompanionOfRow.holds Try.pinned (OpenSpec.ofChange fnExactCompanionOfWrong)

/-- 'laws.FnExactPairsLike': WHATEVER THE INPUT: true; the input reads as it did. -/
def fnExactPairsLikeSpec : ChangeSpec := { name := "fnExactPairsLike", fn := fun _ => fun
  | [d] => { results := [.lit (.bool true)], args := [d] }
  | _ => none }
def fnExactPairsLikeRow : OpenClaim := { program := "ytlcogkfjjlclmaa", sum := "7c0b0b59b3141ed3fa9a92b1a0790d7767bc045892ec171fb7cfd21d2116a376", func := "loop.example/g01210/laws.FnExactPairsLike", spec := "fnExactPairsLike", unfollowed := true, recurses := true, apart := false }
def FnExactPairsLikeSaid : Prop := fnExactPairsLikeRow.holds Try.pinned (OpenSpec.ofChange fnExactPairsLikeSpec)

/-- ITS FALSE NEIGHBOUR: 'it returns false'. Refute it at one input. -/
def fnExactPairsLikeWrong : ChangeSpec := { name := "fnExactPairsLike", fn := fun _ => fun
  | [d] => { results := [.lit (.bool false)], args := [d] }
  | _ => none }
def FnExactPairsLikeWrongFalsely : Prop := fnExactPairsLikeRow.holds Try.pinned (OpenSpec.ofChange fnExactPairsLikeWrong)

/-- 'laws.FnExactShapesLike': WHATEVER THE INPUT: true; the input reads as it did. -/
def fnExactShapesLikeSpec : ChangeSpec := { name := "fnExactShapesLike", fn := fun _ => fun
  | [d] => { results := [.lit (.bool true)], args := [d] }
  | _ => none }
def fnExactShapesLikeRow : OpenClaim := { program := "ytlcogkfjjlclmaa", sum := "7c0b0b59b3141ed3fa9a92b1a0790d7767bc045892ec171fb7cfd21d2116a376", func := "loop.example/g01210/laws.FnExactShapesLike", spec := "fnExactShapesLike", unfollowed := true, recurses := true, apart := false }
def FnExactShapesLikeSaid : Prop := fnExactShapesLikeRow.holds Try.pinned (OpenSpec.ofChange fnExactShapesLikeSpec)

/-- ITS FALSE NEIGHBOUR: 'it returns false'. Refute it at one input. -/
def fnExactShapesLikeWrong : ChangeSpec := { name := "fnExactShapesLike", fn := fun _ => fun
  | [d] => { results := [.lit (.bool false)], args := [d] }
  | _ => none }
def FnExactShapesLikeWrongFalsely : Prop := fnExactShapesLikeRow.holds Try.pinned (OpenSpec.ofChange fnExactShapesLikeWrong)

/-- 'laws.FnExactDoubleOf': WHATEVER THE INPUT: true; the input reads as it did. -/
def fnExactDoubleOfSpec : ChangeSpec := { name := "fnExactDoubleOf", fn := fun _ => fun
  | [d] => { results := [.lit (.bool true)], args := [d] }
  | _ => none }
def fnExactDoubleOfRow : OpenClaim := { program := "ytlcogkfjjlclmaa", sum := "7c0b0b59b3141ed3fa9a92b1a0790d7767bc045892ec171fb7cfd21d2116a376", func := "loop.example/g01210/laws.FnExactDoubleOf", spec := "fnExactDoubleOf", unfollowed := true, recurses := true, apart := false }
def FnExactDoubleOfSaid : Prop := fnExactDoubleOfRow.holds Try.pinned (OpenSpec.ofChange fnExactDoubleOfSpec)

/-- ITS FALSE NEIGHBOUR: 'it returns false'. Refute it at one input. -/
def fnExactDoubleOfWrong : ChangeSpec := { name := "fnExactDoubleOf", fn := fun _ => fun
  | [d] => { results := [.lit (.bool false)], args := [d] }
  | _ => none }
def FnExactDoubleOfWrongFalsely : Prop := fnExactDoubleOfRow.holds Try.pinned (OpenSpec.ofChange fnExactDoubleOfWrong)

/- THE SECOND FORM. 'bulk': how many values and letters a reading holds, each counted each time it is reached (what is shared counts as often as it is met; a slice's spare places count too). A statement '..UptoSaid' is the law's where the arguments, and the package variables that the reading takes, are together of bulk at most 1048576: NARROWER than '..Said'. Prove '..Said' where nothing that the law and all that it calls make is longer than what came in: it says more and counts as full. Else prove '..UptoSaid'. A law counts once. -/
mutual
def uptoBulk {H : Type} : DataW H → Nat
  | .lit (.string bytes) => bytes.length + 1
  | .lit _ => 1
  | .nil => 1
  | .ptr d => uptoBulk d + 1
  | .slice elems spare => uptoBulkAll elems + uptoBulkAll spare + 1
  | .agg parts => uptoBulkAll parts + 1
  | .iface _ d => uptoBulk d + 1
  | .map entries => uptoBulkEntries entries + 1
  | .held _ => 1
def uptoBulkAll {H : Type} : List (DataW H) → Nat
  | [] => 0
  | d :: r => uptoBulk d + uptoBulkAll r
def uptoBulkEntries {H : Type} : List (Lit × DataW H) → Nat
  | [] => 0
  | x :: r => uptoBulkEntry x + uptoBulkEntries r
def uptoBulkEntry {H : Type} : Lit × DataW H → Nat
  | (.string bytes, d) => bytes.length + uptoBulk d + 1
  | (_, d) => uptoBulk d + 1
 end
def uptoSmall : (H : Type) → List (DataW H) → Bool := fun _ ds => decide (uptoBulkAll ds ≤ 1048576)
def OpenSpec.upto (s : _root_.Go.ChangeSpec) : _root_.Go.OpenSpec := { _root_.Go.OpenSpec.ofChange s with cond := some uptoSmall }

/-- 'laws.FnExactEvenChance', WHERE WHAT IT READS IS OF BULK AT MOST 1048576: true; the input reads as it did. -/
def fnExactEvenChanceUptoRow : OpenClaim := { program := "ytlcogkfjjlclmaa", sum := "7c0b0b59b3141ed3fa9a92b1a0790d7767bc045892ec171fb7cfd21d2116a376", func := "loop.example/g01210/laws.FnExactEvenChance", spec := "fnExactEvenChance", unfollowed := true, recurses := true, apart := false, narrowed := true }
def FnExactEvenChanceUptoSaid : Prop := fnExactEvenChanceUptoRow.holds Try.pinned (OpenSpec.upto fnExactEvenChanceSpec)

/-- 'laws.FnExactCompanionOf', WHERE WHAT IT READS IS OF BULK AT MOST 1048576: true; the input reads as it did. -/
def fnExactCompanionOfUptoRow : OpenClaim := { program := "ytlcogkfjjlclmaa", sum := "7c0b0b59b3141ed3fa9a92b1a0790d7767bc045892ec171fb7cfd21d2116a376", func := "loop.example/g01210/laws.FnExactCompanionOf", spec := "fnExactCompanionOf", unfollowed := true, recurses := true, apart := false, narrowed := true }
def FnExactCompanionOfUptoSaid : Prop := fnExactCompanionOfUptoRow.holds Try.pinned (OpenSpec.upto fnExactCompanionOfSpec)

/-- 'laws.FnExactPairsLike', WHERE WHAT IT READS IS OF BULK AT MOST 1048576: true; the input reads as it did. -/
def fnExactPairsLikeUptoRow : OpenClaim := { program := "ytlcogkfjjlclmaa", sum := "7c0b0b59b3141ed3fa9a92b1a0790d7767bc045892ec171fb7cfd21d2116a376", func := "loop.example/g01210/laws.FnExactPairsLike", spec := "fnExactPairsLike", unfollowed := true, recurses := true, apart := false, narrowed := true }
def FnExactPairsLikeUptoSaid : Prop := fnExactPairsLikeUptoRow.holds Try.pinned (OpenSpec.upto fnExactPairsLikeSpec)

/-- 'laws.FnExactShapesLike', WHERE WHAT IT READS IS OF BULK AT MOST 1048576: true; the input reads as it did. -/
def fnExactShapesLikeUptoRow : OpenClaim := { program := "ytlcogkfjjlclmaa", sum := "7c0b0b59b3141ed3fa9a92b1a0790d7767bc045892ec171fb7cfd21d2116a376", func := "loop.example/g01210/laws.FnExactShapesLike", spec := "fnExactShapesLike", unfollowed := true, recurses := true, apart := false, narrowed := true }
def FnExactShapesLikeUptoSaid : Prop := fnExactShapesLikeUptoRow.holds Try.pinned (OpenSpec.upto fnExactShapesLikeSpec)

/-- 'laws.FnExactDoubleOf', WHERE WHAT IT READS IS OF BULK AT MOST 1048576: true; the input reads as it did. -/
def fnExactDoubleOfUptoRow : OpenClaim := { program := "ytlcogkfjjlclmaa", sum := "7c0b0b59b3141ed3fa9a92b1a0790d7767bc045892ec171fb7cfd21d2116a376", func := "loop.example/g01210/laws.FnExactDoubleOf", spec := "fnExactDoubleOf", unfollowed := true, recurses := true, apart := false, narrowed := true }
def FnExactDoubleOfUptoSaid : Prop := fnExactDoubleOfUptoRow.holds Try.pinned (OpenSpec.upto fnExactDoubleOfSpec)

end Rows
end Go.Proofs.Ytlcogkfjjlclmaa

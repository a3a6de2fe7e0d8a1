/-
  No cell of these rows narrows 'for every input' (looked for: loops, veiled, ifaces, maps, wideKeys, modest, calm, conditions, laid).
  DERIVED. THE GIVEN ROWS OF THIS SEAT. 9 by the template 'for every input the law returns true; each argument reads behind the call as it read before'; 0 by the template 'total and deterministic' (their statements: YtfiabgkolhpbkaaTotals.lean).
  GIVEN WITH THE SEED: the statements are not yours to turn. If you find one false, say at which input.
  Laid BY PROGRAM, IN A SANDBOX (cutbox-rows.mjs): the forced cells as the released guide's own fill.sh prints them over the translation 5959ffbb1faf3a5a… (all of the seat's roots in one cut). By AI agents, Wed Nov 11 2026. No macro, syntax, notation, axiom, sorry.
-/
import Derived.Test.YtfiabgkolhpbkaaChecked
import GoSem.Claim
import GoSem.ClaimJoined
import GoSem.ClaimMapViews
import Derived.JoinedTies
import Derived.KernelRfl
namespace Go.Proofs.Ytfiabgkolhpbkaa
/- THE CELL 'sum', in the pinned program and in every row, IS THE sha256 OF THE DUMP (.gsa) THAT YtfiabgkolhpbkaaProg.lean LOADS. Nothing in Lean hashes anything: it is a label: what it is worth is what the hold of that sum in a sandbox is worth. -/
noncomputable def Try.pinned : Pinned := { name := "ytfiabgkolhpbkaa", sum := "5959ffbb1faf3a5a00a30940d58473d48b908ef73ad6c7f2134b058005547b07", checked := Try.checked }
namespace Rows
def none {H : Type} : Left H := { results := [], args := [] }

/-- 'laws.FnExactCountEven': WHATEVER THE INPUT: true; the input reads as it did. -/
def fnExactCountEvenSpec : ChangeSpec := { name := "fnExactCountEven", fn := fun _ => fun
  | [d] => { results := [.lit (.bool true)], args := [d] }
  | _ => none }
def fnExactCountEvenRow : OpenClaim := { program := "ytfiabgkolhpbkaa", sum := "5959ffbb1faf3a5a00a30940d58473d48b908ef73ad6c7f2134b058005547b07", func := "loop.example/g01210/laws.FnExactCountEven", spec := "fnExactCountEven", apart := false }
def FnExactCountEvenSaid : Prop := fnExactCountEvenRow.holds Try.pinned (OpenSpec.ofChange fnExactCountEvenSpec)

/-- ITS FALSE NEIGHBOUR: 'it returns false'. Refute it at one input. -/
def fnExactCountEvenWrong : ChangeSpec := { name := "fnExactCountEven", fn := fun _ => fun
  | [d] => { results := [.lit (.bool false)], args := [d] }
  | _ => none }
def FnExactCountEvenWrongFalsely : Prop := fnExactCountEvenRow.holds Try.pinned (OpenSpec.ofChange fnExactCountEvenWrong)

/-- 'laws.FnExactTurnLetters': WHATEVER THE INPUT: true; the input reads as it did. -/
def fnExactTurnLettersSpec : ChangeSpec := { name := "fnExactTurnLetters", fn := fun _ => fun
  | [d] => { results := [.lit (.bool true)], args := [d] }
  | _ => none }
def fnExactTurnLettersRow : OpenClaim := { program := "ytfiabgkolhpbkaa", sum := "5959ffbb1faf3a5a00a30940d58473d48b908ef73ad6c7f2134b058005547b07", func := "loop.example/g01210/laws.FnExactTurnLetters", spec := "fnExactTurnLetters", apart := false }
def FnExactTurnLettersSaid : Prop := fnExactTurnLettersRow.holds Try.pinned (OpenSpec.ofChange fnExactTurnLettersSpec)

/-- ITS FALSE NEIGHBOUR: 'it returns false'. Refute it at one input. -/
def fnExactTurnLettersWrong : ChangeSpec := { name := "fnExactTurnLetters", fn := fun _ => fun
  | [d] => { results := [.lit (.bool false)], args := [d] }
  | _ => none }
def FnExactTurnLettersWrongFalsely : Prop := fnExactTurnLettersRow.holds Try.pinned (OpenSpec.ofChange fnExactTurnLettersWrong)

/-- 'laws.FnExactOrdersOf': WHATEVER THE INPUT: true; the input reads as it did. -/
def fnExactOrdersOfSpec : ChangeSpec := { name := "fnExactOrdersOf", fn := fun _ => fun
  | [d] => { results := [.lit (.bool true)], args := [d] }
  | _ => none }
def fnExactOrdersOfRow : OpenClaim := { program := "ytfiabgkolhpbkaa", sum := "5959ffbb1faf3a5a00a30940d58473d48b908ef73ad6c7f2134b058005547b07", func := "loop.example/g01210/laws.FnExactOrdersOf", spec := "fnExactOrdersOf", unfollowed := true, recurses := true, apart := false }
def FnExactOrdersOfSaid : Prop := fnExactOrdersOfRow.holds Try.pinned (OpenSpec.ofChange fnExactOrdersOfSpec)

/-- ITS FALSE NEIGHBOUR: 'it returns false'. Refute it at one input. -/
def fnExactOrdersOfWrong : ChangeSpec := { name := "fnExactOrdersOf", fn := fun _ => fun
  | [d] => { results := [.lit (.bool false)], args := [d] }
  | _ => none }
def FnExactOrdersOfWrongFalsely : Prop := fnExactOrdersOfRow.holds Try.pinned (OpenSpec.ofChange fnExactOrdersOfWrong)

/-- 'laws.FnExactFromLetters': WHATEVER THE INPUT: true; the input reads as it did. -/
def fnExactFromLettersSpec : ChangeSpec := { name := "fnExactFromLetters", fn := fun _ => fun
  | [d] => { results := [.lit (.bool true)], args := [d] }
  | _ => none }
def fnExactFromLettersRow : OpenClaim := { program := "ytfiabgkolhpbkaa", sum := "5959ffbb1faf3a5a00a30940d58473d48b908ef73ad6c7f2134b058005547b07", func := "loop.example/g01210/laws.FnExactFromLetters", spec := "fnExactFromLetters", apart := false }
def FnExactFromLettersSaid : Prop := fnExactFromLettersRow.holds Try.pinned (OpenSpec.ofChange fnExactFromLettersSpec)

/-- ITS FALSE NEIGHBOUR: 'it returns false'. Refute it at one input. -/
def fnExactFromLettersWrong : ChangeSpec := { name := "fnExactFromLetters", fn := fun _ => fun
  | [d] => { results := [.lit (.bool false)], args := [d] }
  | _ => none }
def FnExactFromLettersWrongFalsely : Prop := fnExactFromLettersRow.holds Try.pinned (OpenSpec.ofChange fnExactFromLettersWrong)

/-- 'laws.FnExactIsTieless': WHATEVER THE INPUT: true; the input reads as it did. -/
def fnExactIsTielessSpec : ChangeSpec := { name := "fnExactIsTieless", fn := fun _ => fun
  | [d] => { results := [.lit (.bool true)], args := [d] }
  | _ => none }
def fnExactIsTielessRow : OpenClaim := { program := "ytfiabgkolhpbkaa", sum := "5959ffbb1faf3a5a00a30940d58473d48b908ef73ad6c7f2134b058005547b07", func := "loop.example/g01210/laws.FnExactIsTieless", spec := "fnExactIsTieless", unfollowed := true, recurses := true, apart := false }
def FnExactIsTielessSaid : Prop := fnExactIsTielessRow.holds Try.pinned (OpenSpec.ofChange fnExactIsTielessSpec)

/-- ITS FALSE NEIGHBOUR: 'it returns false'. Refute it at one input. -/
def fnExactIsTielessWrong : ChangeSpec := { name := "fnExactIsTieless", fn := fun _ => fun
  | [d] => { results := [.lit (.bool false)], args := [d] }
  | _ => none }
def FnExactIsTielessWrongFalsely : Prop := fnExactIsTielessRow.holds Try.pinned (OpenSpec.ofChange fnExactIsTielessWrong)

/-- 'laws.FnExactOrderOf': WHATEVER THE INPUT: true; the input reads as it did. -/
def fnExactOrderOfSpec : ChangeSpec := { name := "fnExactOrderOf", fn := fun _ => fun
  | [d1, d2] => { results := [.lit (.bool true)], args := [d1, d2] }
  | _ => none }
def fnExactOrderOfRow : OpenClaim := { program := "ytfiabgkolhpbkaa", sum := "5959ffbb1faf3a5a00a30940d58473d48b908ef73ad6c7f2134b058005547b07", func := "loop.example/g01210/laws.FnExactOrderOf", spec := "fnExactOrderOf", unfollowed := true, recurses := true, apart := false }
def FnExactOrderOfSaid : Prop := fnExactOrderOfRow.holds Try.pinned (OpenSpec.ofChange fnExactOrderOfSpec)

/-- ITS FALSE NEIGHBOUR: 'it returns false'. Refute it at one input. -/
def fnExactOrderOfWrong : ChangeSpec := { name := "fnExactOrderOf", fn := fun _ => fun
  | [d1, d2] => { results := [.lit (.bool false)], args := [d1, d2] }
  | _ => none }
def FnExactOrderOfWrongFalsely : Prop := fnExactOrderOfRow.holds Try.pinned (OpenSpec.ofChange fnExactOrderOfWrong)

/-- 'laws.FnExactLettersWays': WHATEVER THE INPUT: true; the input reads as it did. -/
def fnExactLettersWaysSpec : ChangeSpec := { name := "fnExactLettersWays", fn := fun _ => fun
  | [d] => { results := [.lit (.bool true)], args := [d] }
  | _ => none }
def fnExactLettersWaysRow : OpenClaim := { program := "ytfiabgkolhpbkaa", sum := "5959ffbb1faf3a5a00a30940d58473d48b908ef73ad6c7f2134b058005547b07", func := "loop.example/g01210/laws.FnExactLettersWays", spec := "fnExactLettersWays", unfollowed := true, recurses := true, apart := false }
def FnExactLettersWaysSaid : Prop := fnExactLettersWaysRow.holds Try.pinned (OpenSpec.ofChange fnExactLettersWaysSpec)

/-- ITS FALSE NEIGHBOUR: 'it returns false'. Refute it at one input. -/
def fnExactLettersWaysWrong : ChangeSpec := { name := "fnExactLettersWays", fn := fun _ => fun
  | [d] => { results := [.lit (.bool false)], args := [d] }
  | _ => none }
def FnExactLettersWaysWrongFalsely : Prop := fnExactLettersWaysRow.holds Try.pinned (OpenSpec.ofChange fnExactLettersWaysWrong)

/-- 'laws.FnExactLettersOf': WHATEVER THE INPUT: true; the input reads as it did. -/
def fnExactLettersOfSpec : ChangeSpec := { name := "fnExactLettersOf", fn := fun _ => fun
  | [d] => { results := [.lit (.bool true)], args := [d] }
  | _ => none }
def fnExactLettersOfRow : OpenClaim := { program := "ytfiabgkolhpbkaa", sum := "5959ffbb1faf3a5a00a30940d58473d48b908ef73ad6c7f2134b058005547b07", func := "loop.example/g01210/laws.FnExactLettersOf", spec := "fnExactLettersOf", unfollowed := true, recurses := true, apart := false }
def FnExactLettersOfSaid : Prop := fnExactLettersOfRow.holds Try.pinned (OpenSpec.ofChange fnExactLettersOfSpec)

/-- ITS FALSE NEIGHBOUR: 'it returns false'. Refute it at one input. -/
def fnExactLettersOfWrong : ChangeSpec := { name := "fnExactLettersOf", fn := fun _ => fun
  | [d] => { results := [.lit (.bool false)], args := [d] }
  | _ => none }
def FnExactLettersOfWrongFalsely : Prop := fnExactLettersOfRow.holds Try.pinned (OpenSpec.ofChange fnExactLettersOfWrong)

/-- 'laws.FnExactTieWays': WHATEVER THE INPUT: true; the input reads as it did. -/
def fnExactTieWaysSpec : ChangeSpec := { name := "fnExactTieWays", fn := fun _ => fun
  | [d] => { results := [.lit (.bool true)], args := [d] }
  | _ => none }
def fnExactTieWaysRow : OpenClaim := { program := "ytfiabgkolhpbkaa", sum := "5959ffbb1faf3a5a00a30940d58473d48b908ef73ad6c7f2134b058005547b07", func := "loop.example/g01210/laws.FnExactTieWays", spec := "fnExactTieWays", unfollowed := true, recurses := true, apart := false }
def FnExactTieWaysSaid : Prop := fnExactTieWaysRow.holds Try.pinned (OpenSpec.ofChange fnExactTieWaysSpec)

/-- ITS FALSE NEIGHBOUR: 'it returns false'. Refute it at one input. -/
def fnExactTieWaysWrong : ChangeSpec := { name := "fnExactTieWays", fn := fun _ => fun
  | [d] => { results := [.lit (.bool false)], args := [d] }
  | _ => none }
def FnExactTieWaysWrongFalsely : Prop := fnExactTieWaysRow.holds Try.pinned (OpenSpec.ofChange fnExactTieWaysWrong)

/- THE SECOND FORM. 'bulk': how many values and letters a reading holds, each counted each time it is reached (what is shared counts as often as it is met; a slice's spare places count too). A statement '..UptoSaid' is the law's where the arguments, and the package variables that the reading takes, are together of bulk at most 1048576: NARROWER than '..Said'. Prove '..Said' where nothing that the law and all that it calls make is longer than what came in: it says more and counts as full. Else prove '..UptoSaid'. A law counts once. -/
mutual
def uptoBulk {H : Type} : DataW H → Nat
  | .lit (.string bytes) => bytes.length + 1
  | .lit _ => 1
  | .nil => 1
  | .ptr d => uptoBulk d + 1
  | .slice elems spare => uptoBulkAll elems + uptoBulkAll spare + 1
  | .agg parts => uptoBulkAll parts + 1
  | .iface _ d => uptoBulk d + 1
  | .map entries => uptoBulkEntries entries + 1
  | .held _ => 1
def uptoBulkAll {H : Type} : List (DataW H) → Nat
  | [] => 0
  | d :: r => uptoBulk d + uptoBulkAll r
def uptoBulkEntries {H : Type} : List (Lit × DataW H) → Nat
  | [] => 0
  | x :: r => uptoBulkEntry x + uptoBulkEntries r
def uptoBulkEntry {H : Type} : Lit × DataW H → Nat
  | (.string bytes, d) => bytes.length + uptoBulk d + 1
  | (_, d) => uptoBulk d + 1
 end
def uptoSmall : (H : Type) → List (DataW H) → Bool := fun _ ds => decide (uptoBulkAll ds ≤ 1048576)
def OpenSpec.upto (s : _root_.Go.ChangeSpec) : _root_.Go.OpenSpec := { _root_.Go.OpenSpec.ofChange s with cond := some uptoSmall }

/-- 'laws.FnExactCountEven', WHERE WHAT IT READS IS OF BULK AT MOST 1048576: true; the input reads as it did. -/
def fnExactCountEvenUptoRow : OpenClaim := { program := "ytfiabgkolhpbkaa", sum := "5959ffbb1faf3a5a00a30940d58473d48b908ef73ad6c7f2134b058005547b07", func := "loop.example/g01210/laws.FnExactCountEven", spec := "fnExactCountEven", apart := false, narrowed := true }
def FnExactCountEvenUptoSaid : Prop := fnExactCountEvenUptoRow.holds Try.pinned (OpenSpec.upto fnExactCountEvenSpec)

/-- 'laws.FnExactTurnLetters', WHERE WHAT IT READS IS OF BULK AT MOST 1048576: true; the input reads as it did. -/
def fnExactTurnLettersUptoRow : OpenClaim := { program := "ytfiabgkolhpbkaa", sum := "5959ffbb1faf3a5a00a30940d58473d48b908ef73ad6c7f2134b058005547b07", func := "loop.example/g01210/laws.FnExactTurnLetters", spec := "fnExactTurnLetters", apart := false, narrowed := true }
def FnExactTurnLettersUptoSaid : Prop := fnExactTurnLettersUptoRow.holds Try.pinned (OpenSpec.upto fnExactTurnLettersSpec)

/-- 'laws.FnExactOrdersOf', WHERE WHAT IT READS IS OF BULK AT MOST 1048576: true; the input reads as it did. -/
def fnExactOrdersOfUptoRow : OpenClaim := { program := "ytfiabgkolhpbkaa", sum := "5959ffbb1faf3a5a00a30940d58473d48b908ef73ad6c7f2134b058005547b07", func := "loop.example/g01210/laws.FnExactOrdersOf", spec := "fnExactOrdersOf", unfollowed := true, recurses := true, apart := false, narrowed := true }
def FnExactOrdersOfUptoSaid : Prop := fnExactOrdersOfUptoRow.holds Try.pinned (OpenSpec.upto fnExactOrdersOfSpec)

/-- 'laws.FnExactFromLetters', WHERE WHAT IT READS IS OF BULK AT MOST 1048576: true; the input reads as it did. -/
def fnExactFromLettersUptoRow : OpenClaim := { program := "ytfiabgkolhpbkaa", sum := "5959ffbb1faf3a5a00a30940d58473d48b908ef73ad6c7f2134b058005547b07", func := "loop.example/g01210/laws.FnExactFromLetters", spec := "fnExactFromLetters", apart := false, narrowed := true }
def FnExactFromLettersUptoSaid : Prop := fnExactFromLettersUptoRow.holds Try.pinned (OpenSpec.upto fnExactFromLettersSpec)

/-- 'laws.FnExactIsTieless', WHERE WHAT IT READS IS OF BULK AT MOST 1048576: true; the input reads as it did. -/
def fnExactIsTielessUptoRow : OpenClaim := { program := "ytfiabgkolhpbkaa", sum := "5959ffbb1faf3a5a00a30940d58473d48b908ef73ad6c7f2134b058005547b07", func := "loop.example/g01210/laws.FnExactIsTieless", spec := "fnExactIsTieless", unfollowed := true, recurses := true, apart := false, narrowed := true }
def FnExactIsTielessUptoSaid : Prop := fnExactIsTielessUptoRow.holds Try.pinned (OpenSpec.upto fnExactIsTielessSpec)

/-- 'laws.FnExactOrderOf', WHERE WHAT IT READS IS OF BULK AT MOST 1048576: true; the input reads as it did. -/
def fnExactOrderOfUptoRow : OpenClaim := { program := "ytfiabgkolhpbkaa", sum := "5959ffbb1faf3a5a00a30940d58473d48b908ef73ad6c7f2134b058005547b07", func := "loop.example/g01210/laws.FnExactOrderOf", spec := "fnExactOrderOf", unfollowed := true, recurses := true, apart := false, narrowed := true }
def FnExactOrderOfUptoSaid : Prop := fnExactOrderOfUptoRow.holds Try.pinned (OpenSpec.upto fnExactOrderOfSpec)

/-- 'laws.FnExactLettersWays', WHERE WHAT IT READS IS OF BULK AT MOST 1048576: true; the input reads as it did. -/
def fnExactLettersWaysUptoRow : OpenClaim := { program := "ytfiabgkolhpbkaa", sum := "5959ffbb1faf3a5a00a30940d58473d48b908ef73ad6c7f2134b058005547b07", func := "loop.example/g01210/laws.FnExactLettersWays", spec := "fnExactLettersWays", unfollowed := true, recurses := true, apart := false, narrowed := true }
def FnExactLettersWaysUptoSaid : Prop := fnExactLettersWaysUptoRow.holds Try.pinned (OpenSpec.upto fnExactLettersWaysSpec)

/-- 'laws.FnExactLettersOf', WHERE WHAT IT READS IS OF BULK AT MOST 1048576: true; the input reads as it did. -/
def fnExactLettersOfUptoRow : OpenClaim := { program := "ytfiabgkolhpbkaa", sum := "5959ffbb1faf3a5a00a30940d58473d48b908ef73ad6c7f2134b058005547b07", func := "loop.example/g01210/laws.FnExactLettersOf", spec := "fnExactLettersOf", unfollowed := true, recurses := true, apart := false, narrowed := true }
def FnExactLettersOfUptoSaid : Prop := fnExactLettersOfUptoRow.holds Try.pinned (OpenSpec.upto fnExactLettersOfSpec)

/-- 'laws.FnExactTieWays', WHERE WHAT IT READS IS OF BULK AT MOST 1048576: true; the input reads as it did. -/
def fnExactTieWaysUptoRow : OpenClaim := { program := "ytfiabgkolhpbkaa", sum := "5959ffbb1faf3a5a00a30940d58473d48b908ef73ad6c7f2134b058005547b07", func := "loop.example/g01210/laws.FnExactTieWays", spec := "fnExactTieWays", unfollowed := true, recurses := true, apart := false, narrowed := true }
def FnExactTieWaysUptoSaid : Prop := fnExactTieWaysUptoRow.holds Try.pinned (OpenSpec.upto fnExactTieWaysSpec)

end Rows
end Go.Proofs.Ytfiabgkolhpbkaa

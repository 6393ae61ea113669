/-
  No cell of these rows narrows 'for every input' (looked for: loops, veiled, ifaces, maps, wideKeys, modest, calm, conditions, laid).
  DERIVED. THE GIVEN ROWS OF THIS SEAT. 12 by the template 'for every input the law returns true; each argument reads behind the call as it read before'; 0 by the template 'total and deterministic' (their statements: YtikdahbjfehhdaaTotals.lean).
  GIVEN WITH THE SEED: the statements are not yours to turn. If you find one false, say at which input.
  Laid BY PROGRAM, IN A SANDBOX (cutbox-rows.mjs): the forced cells as the released guide's own fill.sh prints them over the translation af6e47de4a0f6f0b… (all of the seat's roots in one cut). By AI agents, Wed Nov 11 2026. No macro, syntax, notation, axiom, sorry.
-/
import Derived.Test.YtikdahbjfehhdaaChecked
import GoSem.Claim
import GoSem.ClaimJoined
import GoSem.ClaimMapViews
import Derived.JoinedTies
import Derived.KernelRfl
namespace Go.Proofs.Ytikdahbjfehhdaa
/- THE CELL 'sum', in the pinned program and in every row, IS THE sha256 OF THE DUMP (.gsa) THAT YtikdahbjfehhdaaProg.lean LOADS. Nothing in Lean hashes anything: it is a label: what it is worth is what the hold of that sum in a sandbox is worth. -/
noncomputable def Try.pinned : Pinned := { name := "ytikdahbjfehhdaa", sum := "af6e47de4a0f6f0bf4ead23a843d6aa538b9a144ee0ef95cdc067592d7316a16", checked := Try.checked }
namespace Rows
def none {H : Type} : Left H := { results := [], args := [] }

/-- 'laws.FnExactFloorOf': WHATEVER THE INPUT: true; the input reads as it did. -/
def fnExactFloorOfSpec : ChangeSpec := { name := "fnExactFloorOf", fn := fun _ => fun
  | [d] => { results := [.lit (.bool true)], args := [d] }
  | _ => none }
def fnExactFloorOfRow : OpenClaim := { program := "ytikdahbjfehhdaa", sum := "af6e47de4a0f6f0bf4ead23a843d6aa538b9a144ee0ef95cdc067592d7316a16", func := "loop.example/g01007/laws.FnExactFloorOf", spec := "fnExactFloorOf", apart := false }
def FnExactFloorOfSaid : Prop := fnExactFloorOfRow.holds Try.pinned (OpenSpec.ofChange fnExactFloorOfSpec)

/-- ITS FALSE NEIGHBOUR: 'it returns false'. Refute it at one input. -/
def fnExactFloorOfWrong : ChangeSpec := { name := "fnExactFloorOf", fn := fun _ => fun
  | [d] => { results := [.lit (.bool false)], args := [d] }
  | _ => none }
def FnExactFloorOfWrongFalsely : Prop := fnExactFloorOfRow.holds Try.pinned (OpenSpec.ofChange fnExactFloorOfWrong)

/-- 'laws.FnExactSumOfTerms': WHATEVER THE INPUT: true; the input reads as it did. -/
def fnExactSumOfTermsSpec : ChangeSpec := { name := "fnExactSumOfTerms", fn := fun _ => fun
  | [d] => { results := [.lit (.bool true)], args := [d] }
  | _ => none }
def fnExactSumOfTermsRow : OpenClaim := { program := "ytikdahbjfehhdaa", sum := "af6e47de4a0f6f0bf4ead23a843d6aa538b9a144ee0ef95cdc067592d7316a16", func := "loop.example/g01007/laws.FnExactSumOfTerms", spec := "fnExactSumOfTerms", unfollowed := true, recurses := true, apart := false }
def FnExactSumOfTermsSaid : Prop := fnExactSumOfTermsRow.holds Try.pinned (OpenSpec.ofChange fnExactSumOfTermsSpec)

/-- ITS FALSE NEIGHBOUR: 'it returns false'. Refute it at one input. -/
def fnExactSumOfTermsWrong : ChangeSpec := { name := "fnExactSumOfTerms", fn := fun _ => fun
  | [d] => { results := [.lit (.bool false)], args := [d] }
  | _ => none }
def FnExactSumOfTermsWrongFalsely : Prop := fnExactSumOfTermsRow.holds Try.pinned (OpenSpec.ofChange fnExactSumOfTermsWrong)

/-- 'laws.FnExactValidSigned': WHATEVER THE INPUT: true; the input reads as it did. -/
def fnExactValidSignedSpec : ChangeSpec := { name := "fnExactValidSigned", fn := fun _ => fun
  | [d] => { results := [.lit (.bool true)], args := [d] }
  | _ => none }
def fnExactValidSignedRow : OpenClaim := { program := "ytikdahbjfehhdaa", sum := "af6e47de4a0f6f0bf4ead23a843d6aa538b9a144ee0ef95cdc067592d7316a16", func := "loop.example/g01007/laws.FnExactValidSigned", spec := "fnExactValidSigned", unfollowed := true, recurses := true, apart := false }
def FnExactValidSignedSaid : Prop := fnExactValidSignedRow.holds Try.pinned (OpenSpec.ofChange fnExactValidSignedSpec)

/-- ITS FALSE NEIGHBOUR: 'it returns false'. Refute it at one input. -/
def fnExactValidSignedWrong : ChangeSpec := { name := "fnExactValidSigned", fn := fun _ => fun
  | [d] => { results := [.lit (.bool false)], args := [d] }
  | _ => none }
def FnExactValidSignedWrongFalsely : Prop := fnExactValidSignedRow.holds Try.pinned (OpenSpec.ofChange fnExactValidSignedWrong)

/-- 'laws.FnExactRowOfTree': WHATEVER THE INPUT: true; the input reads as it did. -/
def fnExactRowOfTreeSpec : ChangeSpec := { name := "fnExactRowOfTree", fn := fun _ => fun
  | [d] => { results := [.lit (.bool true)], args := [d] }
  | _ => none }
def fnExactRowOfTreeRow : OpenClaim := { program := "ytikdahbjfehhdaa", sum := "af6e47de4a0f6f0bf4ead23a843d6aa538b9a144ee0ef95cdc067592d7316a16", func := "loop.example/g01007/laws.FnExactRowOfTree", spec := "fnExactRowOfTree", recurses := true, apart := false }
def FnExactRowOfTreeSaid : Prop := fnExactRowOfTreeRow.holds Try.pinned (OpenSpec.ofChange fnExactRowOfTreeSpec)

/-- ITS FALSE NEIGHBOUR: 'it returns false'. Refute it at one input. -/
def fnExactRowOfTreeWrong : ChangeSpec := { name := "fnExactRowOfTree", fn := fun _ => fun
  | [d] => { results := [.lit (.bool false)], args := [d] }
  | _ => none }
def FnExactRowOfTreeWrongFalsely : Prop := fnExactRowOfTreeRow.holds Try.pinned (OpenSpec.ofChange fnExactRowOfTreeWrong)

/-- 'laws.FnExactCompareFractions': WHATEVER THE INPUT: true; the input reads as it did. -/
def fnExactCompareFractionsSpec : ChangeSpec := { name := "fnExactCompareFractions", fn := fun _ => fun
  | [d1, d2] => { results := [.lit (.bool true)], args := [d1, d2] }
  | _ => none }
def fnExactCompareFractionsRow : OpenClaim := { program := "ytikdahbjfehhdaa", sum := "af6e47de4a0f6f0bf4ead23a843d6aa538b9a144ee0ef95cdc067592d7316a16", func := "loop.example/g01007/laws.FnExactCompareFractions", spec := "fnExactCompareFractions", apart := false }
def FnExactCompareFractionsSaid : Prop := fnExactCompareFractionsRow.holds Try.pinned (OpenSpec.ofChange fnExactCompareFractionsSpec)

/-- ITS FALSE NEIGHBOUR: 'it returns false'. Refute it at one input. -/
def fnExactCompareFractionsWrong : ChangeSpec := { name := "fnExactCompareFractions", fn := fun _ => fun
  | [d1, d2] => { results := [.lit (.bool false)], args := [d1, d2] }
  | _ => none }
def FnExactCompareFractionsWrongFalsely : Prop := fnExactCompareFractionsRow.holds Try.pinned (OpenSpec.ofChange fnExactCompareFractionsWrong)

/-- 'laws.FnExactMakeFraction': WHATEVER THE INPUT: true; the input reads as it did. -/
def fnExactMakeFractionSpec : ChangeSpec := { name := "fnExactMakeFraction", fn := fun _ => fun
  | [d1, d2] => { results := [.lit (.bool true)], args := [d1, d2] }
  | _ => none }
def fnExactMakeFractionRow : OpenClaim := { program := "ytikdahbjfehhdaa", sum := "af6e47de4a0f6f0bf4ead23a843d6aa538b9a144ee0ef95cdc067592d7316a16", func := "loop.example/g01007/laws.FnExactMakeFraction", spec := "fnExactMakeFraction", apart := false }
def FnExactMakeFractionSaid : Prop := fnExactMakeFractionRow.holds Try.pinned (OpenSpec.ofChange fnExactMakeFractionSpec)

/-- ITS FALSE NEIGHBOUR: 'it returns false'. Refute it at one input. -/
def fnExactMakeFractionWrong : ChangeSpec := { name := "fnExactMakeFraction", fn := fun _ => fun
  | [d1, d2] => { results := [.lit (.bool false)], args := [d1, d2] }
  | _ => none }
def FnExactMakeFractionWrongFalsely : Prop := fnExactMakeFractionRow.holds Try.pinned (OpenSpec.ofChange fnExactMakeFractionWrong)

/-- 'laws.FnExactAddFractions': WHATEVER THE INPUT: true; the input reads as it did. -/
def fnExactAddFractionsSpec : ChangeSpec := { name := "fnExactAddFractions", fn := fun _ => fun
  | [d1, d2] => { results := [.lit (.bool true)], args := [d1, d2] }
  | _ => none }
def fnExactAddFractionsRow : OpenClaim := { program := "ytikdahbjfehhdaa", sum := "af6e47de4a0f6f0bf4ead23a843d6aa538b9a144ee0ef95cdc067592d7316a16", func := "loop.example/g01007/laws.FnExactAddFractions", spec := "fnExactAddFractions", apart := false }
def FnExactAddFractionsSaid : Prop := fnExactAddFractionsRow.holds Try.pinned (OpenSpec.ofChange fnExactAddFractionsSpec)

/-- ITS FALSE NEIGHBOUR: 'it returns false'. Refute it at one input. -/
def fnExactAddFractionsWrong : ChangeSpec := { name := "fnExactAddFractions", fn := fun _ => fun
  | [d1, d2] => { results := [.lit (.bool false)], args := [d1, d2] }
  | _ => none }
def FnExactAddFractionsWrongFalsely : Prop := fnExactAddFractionsRow.holds Try.pinned (OpenSpec.ofChange fnExactAddFractionsWrong)

/-- 'laws.FnExactMediantOf': WHATEVER THE INPUT: true; the input reads as it did. -/
def fnExactMediantOfSpec : ChangeSpec := { name := "fnExactMediantOf", fn := fun _ => fun
  | [d1, d2] => { results := [.lit (.bool true)], args := [d1, d2] }
  | _ => none }
def fnExactMediantOfRow : OpenClaim := { program := "ytikdahbjfehhdaa", sum := "af6e47de4a0f6f0bf4ead23a843d6aa538b9a144ee0ef95cdc067592d7316a16", func := "loop.example/g01007/laws.FnExactMediantOf", spec := "fnExactMediantOf", apart := false }
def FnExactMediantOfSaid : Prop := fnExactMediantOfRow.holds Try.pinned (OpenSpec.ofChange fnExactMediantOfSpec)

/-- ITS FALSE NEIGHBOUR: 'it returns false'. Refute it at one input. -/
def fnExactMediantOfWrong : ChangeSpec := { name := "fnExactMediantOf", fn := fun _ => fun
  | [d1, d2] => { results := [.lit (.bool false)], args := [d1, d2] }
  | _ => none }
def FnExactMediantOfWrongFalsely : Prop := fnExactMediantOfRow.holds Try.pinned (OpenSpec.ofChange fnExactMediantOfWrong)

/-- 'laws.FnExactMulFractions': WHATEVER THE INPUT: true; the input reads as it did. -/
def fnExactMulFractionsSpec : ChangeSpec := { name := "fnExactMulFractions", fn := fun _ => fun
  | [d1, d2] => { results := [.lit (.bool true)], args := [d1, d2] }
  | _ => none }
def fnExactMulFractionsRow : OpenClaim := { program := "ytikdahbjfehhdaa", sum := "af6e47de4a0f6f0bf4ead23a843d6aa538b9a144ee0ef95cdc067592d7316a16", func := "loop.example/g01007/laws.FnExactMulFractions", spec := "fnExactMulFractions", apart := false }
def FnExactMulFractionsSaid : Prop := fnExactMulFractionsRow.holds Try.pinned (OpenSpec.ofChange fnExactMulFractionsSpec)

/-- ITS FALSE NEIGHBOUR: 'it returns false'. Refute it at one input. -/
def fnExactMulFractionsWrong : ChangeSpec := { name := "fnExactMulFractions", fn := fun _ => fun
  | [d1, d2] => { results := [.lit (.bool false)], args := [d1, d2] }
  | _ => none }
def FnExactMulFractionsWrongFalsely : Prop := fnExactMulFractionsRow.holds Try.pinned (OpenSpec.ofChange fnExactMulFractionsWrong)

/-- 'laws.FnExactSubFractions': WHATEVER THE INPUT: true; the input reads as it did. -/
def fnExactSubFractionsSpec : ChangeSpec := { name := "fnExactSubFractions", fn := fun _ => fun
  | [d1, d2] => { results := [.lit (.bool true)], args := [d1, d2] }
  | _ => none }
def fnExactSubFractionsRow : OpenClaim := { program := "ytikdahbjfehhdaa", sum := "af6e47de4a0f6f0bf4ead23a843d6aa538b9a144ee0ef95cdc067592d7316a16", func := "loop.example/g01007/laws.FnExactSubFractions", spec := "fnExactSubFractions", apart := false }
def FnExactSubFractionsSaid : Prop := fnExactSubFractionsRow.holds Try.pinned (OpenSpec.ofChange fnExactSubFractionsSpec)

/-- ITS FALSE NEIGHBOUR: 'it returns false'. Refute it at one input. -/
def fnExactSubFractionsWrong : ChangeSpec := { name := "fnExactSubFractions", fn := fun _ => fun
  | [d1, d2] => { results := [.lit (.bool false)], args := [d1, d2] }
  | _ => none }
def FnExactSubFractionsWrongFalsely : Prop := fnExactSubFractionsRow.holds Try.pinned (OpenSpec.ofChange fnExactSubFractionsWrong)

/-- 'laws.FnExactDivFractions': WHATEVER THE INPUT: true; the input reads as it did. -/
def fnExactDivFractionsSpec : ChangeSpec := { name := "fnExactDivFractions", fn := fun _ => fun
  | [d1, d2] => { results := [.lit (.bool true)], args := [d1, d2] }
  | _ => none }
def fnExactDivFractionsRow : OpenClaim := { program := "ytikdahbjfehhdaa", sum := "af6e47de4a0f6f0bf4ead23a843d6aa538b9a144ee0ef95cdc067592d7316a16", func := "loop.example/g01007/laws.FnExactDivFractions", spec := "fnExactDivFractions", apart := false }
def FnExactDivFractionsSaid : Prop := fnExactDivFractionsRow.holds Try.pinned (OpenSpec.ofChange fnExactDivFractionsSpec)

/-- ITS FALSE NEIGHBOUR: 'it returns false'. Refute it at one input. -/
def fnExactDivFractionsWrong : ChangeSpec := { name := "fnExactDivFractions", fn := fun _ => fun
  | [d1, d2] => { results := [.lit (.bool false)], args := [d1, d2] }
  | _ => none }
def FnExactDivFractionsWrongFalsely : Prop := fnExactDivFractionsRow.holds Try.pinned (OpenSpec.ofChange fnExactDivFractionsWrong)

/-- 'laws.FnFloors': WHATEVER THE INPUT: true; the input reads as it did. -/
def fnFloorsSpec : ChangeSpec := { name := "fnFloors", fn := fun _ => fun
  | [d1, d2] => { results := [.lit (.bool true)], args := [d1, d2] }
  | _ => none }
def fnFloorsRow : OpenClaim := { program := "ytikdahbjfehhdaa", sum := "af6e47de4a0f6f0bf4ead23a843d6aa538b9a144ee0ef95cdc067592d7316a16", func := "loop.example/g01007/laws.FnFloors", spec := "fnFloors", apart := false }
def FnFloorsSaid : Prop := fnFloorsRow.holds Try.pinned (OpenSpec.ofChange fnFloorsSpec)

/-- ITS FALSE NEIGHBOUR: 'it returns false'. Refute it at one input. -/
def fnFloorsWrong : ChangeSpec := { name := "fnFloors", fn := fun _ => fun
  | [d1, d2] => { results := [.lit (.bool false)], args := [d1, d2] }
  | _ => none }
def FnFloorsWrongFalsely : Prop := fnFloorsRow.holds Try.pinned (OpenSpec.ofChange fnFloorsWrong)

/- THE SECOND FORM. 'bulk': how many values and letters a reading holds, each counted each time it is reached (what is shared counts as often as it is met; a slice's spare places count too). A statement '..UptoSaid' is the law's where the arguments, and the package variables that the reading takes, are together of bulk at most 1048576: NARROWER than '..Said'. Prove '..Said' where nothing that the law and all that it calls make is longer than what came in: it says more and counts as full. Else prove '..UptoSaid'. A law counts once. -/
mutual
def uptoBulk {H : Type} : DataW H → Nat
  | .lit (.string bytes) => bytes.length + 1
  | .lit _ => 1
  | .nil => 1
  | .ptr d => uptoBulk d + 1
  | .slice elems spare => uptoBulkAll elems + uptoBulkAll spare + 1
  | .agg parts => uptoBulkAll parts + 1
  | .iface _ d => uptoBulk d + 1
  | .map entries => uptoBulkEntries entries + 1
  | .held _ => 1
def uptoBulkAll {H : Type} : List (DataW H) → Nat
  | [] => 0
  | d :: r => uptoBulk d + uptoBulkAll r
def uptoBulkEntries {H : Type} : List (Lit × DataW H) → Nat
  | [] => 0
  | x :: r => uptoBulkEntry x + uptoBulkEntries r
def uptoBulkEntry {H : Type} : Lit × DataW H → Nat
  | (.string bytes, d) => bytes.length + uptoBulk d + 1
  | (_, d) => uptoBulk d + 1
 end
def uptoSmall : (H : Type) → List (DataW H) → Bool := fun _ ds => decide (uptoBulkAll ds ≤ 1048576)
def OpenSpec.upto (s : _root_.Go.ChangeSpec) : _root_.Go.OpenSpec := { _root_.Go.OpenSpec.ofChange s with cond := some uptoSmall }

/-- 'laws.FnExactFloorOf', WHERE WHAT IT READS IS OF BULK AT MOST 1048576: true; the input reads as it did. -/
def fnExactFloorOfUptoRow : OpenClaim := { program := "ytikdahbjfehhdaa", sum := "af6e47de4a0f6f0bf4ead23a843d6aa538b9a144ee0ef95cdc067592d7316a16", func := "loop.example/g01007/laws.FnExactFloorOf", spec := "fnExactFloorOf", apart := false, narrowed := true }
def FnExactFloorOfUptoSaid : Prop := fnExactFloorOfUptoRow.holds Try.pinned (OpenSpec.upto fnExactFloorOfSpec)

/-- 'laws.FnExactSumOfTerms', WHERE WHAT IT READS IS OF BULK AT MOST 1048576: true; the input reads as it did. -/
def fnExactSumOfTermsUptoRow : OpenClaim := { program := "ytikdahbjfehhdaa", sum := "af6e47de4a0f6f0bf4ead23a843d6aa538b9a144ee0ef95cdc067592d7316a16", func := "loop.example/g01007/laws.FnExactSumOfTerms", spec := "fnExactSumOfTerms", unfollowed := true, recurses := true, apart := false, narrowed := true }
def FnExactSumOfTermsUptoSaid : Prop := fnExactSumOfTermsUptoRow.holds Try.pinned (OpenSpec.upto fnExactSumOfTermsSpec)

/-- 'laws.FnExactValidSigned', WHERE WHAT IT READS IS OF BULK AT MOST 1048576: true; the input reads as it did. -/
def fnExactValidSignedUptoRow : OpenClaim := { program := "ytikdahbjfehhdaa", sum := "af6e47de4a0f6f0bf4ead23a843d6aa538b9a144ee0ef95cdc067592d7316a16", func := "loop.example/g01007/laws.FnExactValidSigned", spec := "fnExactValidSigned", unfollowed := true, recurses := true, apart := false, narrowed := true }
def FnExactValidSignedUptoSaid : Prop := fnExactValidSignedUptoRow.holds Try.pinned (OpenSpec.upto fnExactValidSignedSpec)

/-- 'laws.FnExactRowOfTree', WHERE WHAT IT READS IS OF BULK AT MOST 1048576: true; the input reads as it did. -/
def fnExactRowOfTreeUptoRow : OpenClaim := { program := "ytikdahbjfehhdaa", sum := "af6e47de4a0f6f0bf4ead23a843d6aa538b9a144ee0ef95cdc067592d7316a16", func := "loop.example/g01007/laws.FnExactRowOfTree", spec := "fnExactRowOfTree", recurses := true, apart := false, narrowed := true }
def FnExactRowOfTreeUptoSaid : Prop := fnExactRowOfTreeUptoRow.holds Try.pinned (OpenSpec.upto fnExactRowOfTreeSpec)

/-- 'laws.FnExactCompareFractions', WHERE WHAT IT READS IS OF BULK AT MOST 1048576: true; the input reads as it did. -/
def fnExactCompareFractionsUptoRow : OpenClaim := { program := "ytikdahbjfehhdaa", sum := "af6e47de4a0f6f0bf4ead23a843d6aa538b9a144ee0ef95cdc067592d7316a16", func := "loop.example/g01007/laws.FnExactCompareFractions", spec := "fnExactCompareFractions", apart := false, narrowed := true }
def FnExactCompareFractionsUptoSaid : Prop := fnExactCompareFractionsUptoRow.holds Try.pinned (OpenSpec.upto fnExactCompareFractionsSpec)

/-- 'laws.FnExactMakeFraction', WHERE WHAT IT READS IS OF BULK AT MOST 1048576: true; the input reads as it did. -/
def fnExactMakeFractionUptoRow : OpenClaim := { program := "ytikdahbjfehhdaa", sum := "af6e47de4a0f6f0bf4ead23a843d6aa538b9a144ee0ef95cdc067592d7316a16", func := "loop.example/g01007/laws.FnExactMakeFraction", spec := "fnExactMakeFraction", apart := false, narrowed := true }
def FnExactMakeFractionUptoSaid : Prop := fnExactMakeFractionUptoRow.holds Try.pinned (OpenSpec.upto fnExactMakeFractionSpec)

/-- 'laws.FnExactAddFractions', WHERE WHAT IT READS IS OF BULK AT MOST 1048576: true; the input reads as it did. -/
def fnExactAddFractionsUptoRow : OpenClaim := { program := "ytikdahbjfehhdaa", sum := "af6e47de4a0f6f0bf4ead23a843d6aa538b9a144ee0ef95cdc067592d7316a16", func := "loop.example/g01007/laws.FnExactAddFractions", spec := "fnExactAddFractions", apart := false, narrowed := true }
def FnExactAddFractionsUptoSaid : Prop := fnExactAddFractionsUptoRow.holds Try.pinned (OpenSpec.upto fnExactAddFractionsSpec)

/-- 'laws.FnExactMediantOf', WHERE WHAT IT READS IS OF BULK AT MOST 1048576: true; the input reads as it did. -/
def fnExactMediantOfUptoRow : OpenClaim := { program := "ytikdahbjfehhdaa", sum := "af6e47de4a0f6f0bf4ead23a843d6aa538b9a144ee0ef95cdc067592d7316a16", func := "loop.example/g01007/laws.FnExactMediantOf", spec := "fnExactMediantOf", apart := false, narrowed := true }
def FnExactMediantOfUptoSaid : Prop := fnExactMediantOfUptoRow.holds Try.pinned (OpenSpec.upto fnExactMediantOfSpec)

/-- 'laws.FnExactMulFractions', WHERE WHAT IT READS IS OF BULK AT MOST 1048576: true; the input reads as it did. -/
def fnExactMulFractionsUptoRow : OpenClaim := { program := "ytikdahbjfehhdaa", sum := "af6e47de4a0f6f0bf4ead23a843d6aa538b9a144ee0ef95cdc067592d7316a16", func := "loop.example/g01007/laws.FnExactMulFractions", spec := "fnExactMulFractions", apart := false, narrowed := true }
def FnExactMulFractionsUptoSaid : Prop := fnExactMulFractionsUptoRow.holds Try.pinned (OpenSpec.upto fnExactMulFractionsSpec)

/-- 'laws.FnExactSubFractions', WHERE WHAT IT READS IS OF BULK AT MOST 1048576: true; the input reads as it did. -/
def fnExactSubFractionsUptoRow : OpenClaim := { program := "ytikdahbjfehhdaa", sum := "af6e47de4a0f6f0bf4ead23a843d6aa538b9a144ee0ef95cdc067592d7316a16", func := "loop.example/g01007/laws.FnExactSubFractions", spec := "fnExactSubFractions", apart := false, narrowed := true }
def FnExactSubFractionsUptoSaid : Prop := fnExactSubFractionsUptoRow.holds Try.pinned (OpenSpec.upto fnExactSubFractionsSpec)

/-- 'laws.FnExactDivFractions', WHERE WHAT IT READS IS OF BULK AT MOST 1048576: true; the input reads as it did. -/
def fnExactDivFractionsUptoRow : OpenClaim := { program := "ytikdahbjfehhdaa", sum := "af6e47de4a0f6f0bf4ead23a843d6aa538b9a144ee0ef95cdc067592d7316a16", func := "loop.example/g01007/laws.FnExactDivFractions", spec := "fnExactDivFractions", apart := false, narrowed := true }
def FnExactDivFractionsUptoSaid : Prop := fnExactDivFractionsUptoRow.holds Try.pinned (OpenSpec.upto fnExactDivFractionsSpec)

/-- 'laws.FnFloors', WHERE WHAT IT READS IS OF BULK AT MOST 1048576: true; the input reads as it did. -/
def fnFloorsUptoRow : OpenClaim := { program := "ytikdahbjfehhdaa", sum := "af6e47de4a0f6f0bf4ead23a843d6aa538b9a144ee0ef95cdc067592d7316a16", func := "loop.example/g01007/laws.FnFloors", spec := "fnFloors", apart := false, narrowed := true }
def FnFloorsUptoSaid : Prop := fnFloorsUptoRow.holds Try.pinned (OpenSpec.upto fnFloorsSpec)

end Rows
end Go.Proofs.Ytikdahbjfehhdaa

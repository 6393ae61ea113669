/-
  No cell of these rows narrows 'for every input' (looked for: loops, veiled, ifaces, maps, wideKeys, modest, calm, conditions, laid).
  DERIVED. THE GIVEN ROWS OF THIS SEAT. 12 by the template 'for every input the law returns true; each argument reads behind the call as it read before'; 0 by the template 'total and deterministic' (their statements: YtbpaihbpaeoljaaTotals.lean).
  GIVEN WITH THE SEED: the statements are not yours to turn. If you find one false, say at which input.
  Laid BY PROGRAM, IN A SANDBOX (cutbox-rows.mjs): the forced cells as the released guide's own fill.sh prints them over the translation e88a39b783e4f0b3… (all of the seat's roots in one cut). By AI agents, Wed Nov 11 2026. No macro, syntax, notation, axiom, sorry.
-/
import Derived.Test.YtbpaihbpaeoljaaChecked
import GoSem.Claim
import GoSem.ClaimJoined
import GoSem.ClaimMapViews
import Derived.JoinedTies
import Derived.KernelRfl
namespace Go.Proofs.Ytbpaihbpaeoljaa
/- THE CELL 'sum', in the pinned program and in every row, IS THE sha256 OF THE DUMP (.gsa) THAT YtbpaihbpaeoljaaProg.lean LOADS. Nothing in Lean hashes anything: it is a label: what it is worth is what the hold of that sum in a sandbox is worth. -/
noncomputable def Try.pinned : Pinned := { name := "ytbpaihbpaeoljaa", sum := "e88a39b783e4f0b3cd3af8341febe1bb431f84310abba340d104d195b9100f78", checked := Try.checked }
namespace Rows
def none {H : Type} : Left H := { results := [], args := [] }

/-- 'laws.FnExactExpandFraction': WHATEVER THE INPUT: true; the input reads as it did. -/
def fnExactExpandFractionSpec : ChangeSpec := { name := "fnExactExpandFraction", fn := fun _ => fun
  | [d] => { results := [.lit (.bool true)], args := [d] }
  | _ => none }
def fnExactExpandFractionRow : OpenClaim := { program := "ytbpaihbpaeoljaa", sum := "e88a39b783e4f0b3cd3af8341febe1bb431f84310abba340d104d195b9100f78", func := "loop.example/g01007/laws.FnExactExpandFraction", spec := "fnExactExpandFraction", apart := false }
def FnExactExpandFractionSaid : Prop := fnExactExpandFractionRow.holds Try.pinned (OpenSpec.ofChange fnExactExpandFractionSpec)

/-- ITS FALSE NEIGHBOUR: 'it returns false'. Refute it at one input. -/
def fnExactExpandFractionWrong : ChangeSpec := { name := "fnExactExpandFraction", fn := fun _ => fun
  | [d] => { results := [.lit (.bool false)], args := [d] }
  | _ => none }
def FnExactExpandFractionWrongFalsely : Prop := fnExactExpandFractionRow.holds Try.pinned (OpenSpec.ofChange fnExactExpandFractionWrong)

/-- 'laws.FnExactOtherForm': WHATEVER THE INPUT: true; the input reads as it did. -/
def fnExactOtherFormSpec : ChangeSpec := { name := "fnExactOtherForm", fn := fun _ => fun
  | [d] => { results := [.lit (.bool true)], args := [d] }
  | _ => none }
def fnExactOtherFormRow : OpenClaim := { program := "ytbpaihbpaeoljaa", sum := "e88a39b783e4f0b3cd3af8341febe1bb431f84310abba340d104d195b9100f78", func := "loop.example/g01007/laws.FnExactOtherForm", spec := "fnExactOtherForm", unfollowed := true, recurses := true, apart := false }
def FnExactOtherFormSaid : Prop := fnExactOtherFormRow.holds Try.pinned (OpenSpec.ofChange fnExactOtherFormSpec)

/-- ITS FALSE NEIGHBOUR: 'it returns false'. Refute it at one input. -/
def fnExactOtherFormWrong : ChangeSpec := { name := "fnExactOtherForm", fn := fun _ => fun
  | [d] => { results := [.lit (.bool false)], args := [d] }
  | _ => none }
def FnExactOtherFormWrongFalsely : Prop := fnExactOtherFormRow.holds Try.pinned (OpenSpec.ofChange fnExactOtherFormWrong)

/-- 'laws.FnExactCompareTerms': WHATEVER THE INPUT: true; the input reads as it did. -/
def fnExactCompareTermsSpec : ChangeSpec := { name := "fnExactCompareTerms", fn := fun _ => fun
  | [d1, d2] => { results := [.lit (.bool true)], args := [d1, d2] }
  | _ => none }
def fnExactCompareTermsRow : OpenClaim := { program := "ytbpaihbpaeoljaa", sum := "e88a39b783e4f0b3cd3af8341febe1bb431f84310abba340d104d195b9100f78", func := "loop.example/g01007/laws.FnExactCompareTerms", spec := "fnExactCompareTerms", unfollowed := true, recurses := true, apart := false }
def FnExactCompareTermsSaid : Prop := fnExactCompareTermsRow.holds Try.pinned (OpenSpec.ofChange fnExactCompareTermsSpec)

/-- ITS FALSE NEIGHBOUR: 'it returns false'. Refute it at one input. -/
def fnExactCompareTermsWrong : ChangeSpec := { name := "fnExactCompareTerms", fn := fun _ => fun
  | [d1, d2] => { results := [.lit (.bool false)], args := [d1, d2] }
  | _ => none }
def FnExactCompareTermsWrongFalsely : Prop := fnExactCompareTermsRow.holds Try.pinned (OpenSpec.ofChange fnExactCompareTermsWrong)

/-- 'laws.FnContinuants': WHATEVER THE INPUT: true; the input reads as it did. -/
def fnContinuantsSpec : ChangeSpec := { name := "fnContinuants", fn := fun _ => fun
  | [d] => { results := [.lit (.bool true)], args := [d] }
  | _ => none }
def fnContinuantsRow : OpenClaim := { program := "ytbpaihbpaeoljaa", sum := "e88a39b783e4f0b3cd3af8341febe1bb431f84310abba340d104d195b9100f78", func := "loop.example/g01007/laws.FnContinuants", spec := "fnContinuants", unfollowed := true, recurses := true, apart := false }
def FnContinuantsSaid : Prop := fnContinuantsRow.holds Try.pinned (OpenSpec.ofChange fnContinuantsSpec)

/-- ITS FALSE NEIGHBOUR: 'it returns false'. Refute it at one input. -/
def fnContinuantsWrong : ChangeSpec := { name := "fnContinuants", fn := fun _ => fun
  | [d] => { results := [.lit (.bool false)], args := [d] }
  | _ => none }
def FnContinuantsWrongFalsely : Prop := fnContinuantsRow.holds Try.pinned (OpenSpec.ofChange fnContinuantsWrong)

/-- 'laws.FnExactLevelOf': WHATEVER THE INPUT: true; the input reads as it did. -/
def fnExactLevelOfSpec : ChangeSpec := { name := "fnExactLevelOf", fn := fun _ => fun
  | [d] => { results := [.lit (.bool true)], args := [d] }
  | _ => none }
def fnExactLevelOfRow : OpenClaim := { program := "ytbpaihbpaeoljaa", sum := "e88a39b783e4f0b3cd3af8341febe1bb431f84310abba340d104d195b9100f78", func := "loop.example/g01007/laws.FnExactLevelOf", spec := "fnExactLevelOf", apart := false }
def FnExactLevelOfSaid : Prop := fnExactLevelOfRow.holds Try.pinned (OpenSpec.ofChange fnExactLevelOfSpec)

/-- ITS FALSE NEIGHBOUR: 'it returns false'. Refute it at one input. -/
def fnExactLevelOfWrong : ChangeSpec := { name := "fnExactLevelOf", fn := fun _ => fun
  | [d] => { results := [.lit (.bool false)], args := [d] }
  | _ => none }
def FnExactLevelOfWrongFalsely : Prop := fnExactLevelOfRow.holds Try.pinned (OpenSpec.ofChange fnExactLevelOfWrong)

/-- 'laws.FnExactSimplestBetween': WHATEVER THE INPUT: true; the input reads as it did. -/
def fnExactSimplestBetweenSpec : ChangeSpec := { name := "fnExactSimplestBetween", fn := fun _ => fun
  | [d1, d2] => { results := [.lit (.bool true)], args := [d1, d2] }
  | _ => none }
def fnExactSimplestBetweenRow : OpenClaim := { program := "ytbpaihbpaeoljaa", sum := "e88a39b783e4f0b3cd3af8341febe1bb431f84310abba340d104d195b9100f78", func := "loop.example/g01007/laws.FnExactSimplestBetween", spec := "fnExactSimplestBetween", recurses := true, apart := false }
def FnExactSimplestBetweenSaid : Prop := fnExactSimplestBetweenRow.holds Try.pinned (OpenSpec.ofChange fnExactSimplestBetweenSpec)

/-- ITS FALSE NEIGHBOUR: 'it returns false'. Refute it at one input. -/
def fnExactSimplestBetweenWrong : ChangeSpec := { name := "fnExactSimplestBetween", fn := fun _ => fun
  | [d1, d2] => { results := [.lit (.bool false)], args := [d1, d2] }
  | _ => none }
def FnExactSimplestBetweenWrongFalsely : Prop := fnExactSimplestBetweenRow.holds Try.pinned (OpenSpec.ofChange fnExactSimplestBetweenWrong)

/-- 'laws.FnExactValueOfTerms': WHATEVER THE INPUT: true; the input reads as it did. -/
def fnExactValueOfTermsSpec : ChangeSpec := { name := "fnExactValueOfTerms", fn := fun _ => fun
  | [d] => { results := [.lit (.bool true)], args := [d] }
  | _ => none }
def fnExactValueOfTermsRow : OpenClaim := { program := "ytbpaihbpaeoljaa", sum := "e88a39b783e4f0b3cd3af8341febe1bb431f84310abba340d104d195b9100f78", func := "loop.example/g01007/laws.FnExactValueOfTerms", spec := "fnExactValueOfTerms", unfollowed := true, recurses := true, apart := false }
def FnExactValueOfTermsSaid : Prop := fnExactValueOfTermsRow.holds Try.pinned (OpenSpec.ofChange fnExactValueOfTermsSpec)

/-- ITS FALSE NEIGHBOUR: 'it returns false'. Refute it at one input. -/
def fnExactValueOfTermsWrong : ChangeSpec := { name := "fnExactValueOfTerms", fn := fun _ => fun
  | [d] => { results := [.lit (.bool false)], args := [d] }
  | _ => none }
def FnExactValueOfTermsWrongFalsely : Prop := fnExactValueOfTermsRow.holds Try.pinned (OpenSpec.ofChange fnExactValueOfTermsWrong)

/-- 'laws.FnExactBoundsOf': WHATEVER THE INPUT: true; the input reads as it did. -/
def fnExactBoundsOfSpec : ChangeSpec := { name := "fnExactBoundsOf", fn := fun _ => fun
  | [d] => { results := [.lit (.bool true)], args := [d] }
  | _ => none }
def fnExactBoundsOfRow : OpenClaim := { program := "ytbpaihbpaeoljaa", sum := "e88a39b783e4f0b3cd3af8341febe1bb431f84310abba340d104d195b9100f78", func := "loop.example/g01007/laws.FnExactBoundsOf", spec := "fnExactBoundsOf", apart := false }
def FnExactBoundsOfSaid : Prop := fnExactBoundsOfRow.holds Try.pinned (OpenSpec.ofChange fnExactBoundsOfSpec)

/-- ITS FALSE NEIGHBOUR: 'it returns false'. Refute it at one input. -/
def fnExactBoundsOfWrong : ChangeSpec := { name := "fnExactBoundsOf", fn := fun _ => fun
  | [d] => { results := [.lit (.bool false)], args := [d] }
  | _ => none }
def FnExactBoundsOfWrongFalsely : Prop := fnExactBoundsOfRow.holds Try.pinned (OpenSpec.ofChange fnExactBoundsOfWrong)

/-- 'laws.FnExactPathTo': WHATEVER THE INPUT: true; the input reads as it did. -/
def fnExactPathToSpec : ChangeSpec := { name := "fnExactPathTo", fn := fun _ => fun
  | [d] => { results := [.lit (.bool true)], args := [d] }
  | _ => none }
def fnExactPathToRow : OpenClaim := { program := "ytbpaihbpaeoljaa", sum := "e88a39b783e4f0b3cd3af8341febe1bb431f84310abba340d104d195b9100f78", func := "loop.example/g01007/laws.FnExactPathTo", spec := "fnExactPathTo", apart := false }
def FnExactPathToSaid : Prop := fnExactPathToRow.holds Try.pinned (OpenSpec.ofChange fnExactPathToSpec)

/-- ITS FALSE NEIGHBOUR: 'it returns false'. Refute it at one input. -/
def fnExactPathToWrong : ChangeSpec := { name := "fnExactPathTo", fn := fun _ => fun
  | [d] => { results := [.lit (.bool false)], args := [d] }
  | _ => none }
def FnExactPathToWrongFalsely : Prop := fnExactPathToRow.holds Try.pinned (OpenSpec.ofChange fnExactPathToWrong)

/-- 'laws.FnExactFractionAtPath': WHATEVER THE INPUT: true; the input reads as it did. -/
def fnExactFractionAtPathSpec : ChangeSpec := { name := "fnExactFractionAtPath", fn := fun _ => fun
  | [d] => { results := [.lit (.bool true)], args := [d] }
  | _ => none }
def fnExactFractionAtPathRow : OpenClaim := { program := "ytbpaihbpaeoljaa", sum := "e88a39b783e4f0b3cd3af8341febe1bb431f84310abba340d104d195b9100f78", func := "loop.example/g01007/laws.FnExactFractionAtPath", spec := "fnExactFractionAtPath", apart := false }
def FnExactFractionAtPathSaid : Prop := fnExactFractionAtPathRow.holds Try.pinned (OpenSpec.ofChange fnExactFractionAtPathSpec)

/-- ITS FALSE NEIGHBOUR: 'it returns false'. Refute it at one input. -/
def fnExactFractionAtPathWrong : ChangeSpec := { name := "fnExactFractionAtPath", fn := fun _ => fun
  | [d] => { results := [.lit (.bool false)], args := [d] }
  | _ => none }
def FnExactFractionAtPathWrongFalsely : Prop := fnExactFractionAtPathRow.holds Try.pinned (OpenSpec.ofChange fnExactFractionAtPathWrong)

/-- 'laws.FnExactConvergentsOf': WHATEVER THE INPUT: true; the input reads as it did. -/
def fnExactConvergentsOfSpec : ChangeSpec := { name := "fnExactConvergentsOf", fn := fun _ => fun
  | [d] => { results := [.lit (.bool true)], args := [d] }
  | _ => none }
def fnExactConvergentsOfRow : OpenClaim := { program := "ytbpaihbpaeoljaa", sum := "e88a39b783e4f0b3cd3af8341febe1bb431f84310abba340d104d195b9100f78", func := "loop.example/g01007/laws.FnExactConvergentsOf", spec := "fnExactConvergentsOf", unfollowed := true, recurses := true, apart := false }
def FnExactConvergentsOfSaid : Prop := fnExactConvergentsOfRow.holds Try.pinned (OpenSpec.ofChange fnExactConvergentsOfSpec)

/-- ITS FALSE NEIGHBOUR: 'it returns false'. Refute it at one input. -/
def fnExactConvergentsOfWrong : ChangeSpec := { name := "fnExactConvergentsOf", fn := fun _ => fun
  | [d] => { results := [.lit (.bool false)], args := [d] }
  | _ => none }
def FnExactConvergentsOfWrongFalsely : Prop := fnExactConvergentsOfRow.holds Try.pinned (OpenSpec.ofChange fnExactConvergentsOfWrong)

/-- 'laws.FnExactChildrenOf': WHATEVER THE INPUT: true; the input reads as it did. -/
def fnExactChildrenOfSpec : ChangeSpec := { name := "fnExactChildrenOf", fn := fun _ => fun
  | [d] => { results := [.lit (.bool true)], args := [d] }
  | _ => none }
def fnExactChildrenOfRow : OpenClaim := { program := "ytbpaihbpaeoljaa", sum := "e88a39b783e4f0b3cd3af8341febe1bb431f84310abba340d104d195b9100f78", func := "loop.example/g01007/laws.FnExactChildrenOf", spec := "fnExactChildrenOf", apart := false }
def FnExactChildrenOfSaid : Prop := fnExactChildrenOfRow.holds Try.pinned (OpenSpec.ofChange fnExactChildrenOfSpec)

/-- ITS FALSE NEIGHBOUR: 'it returns false'. Refute it at one input. -/
def fnExactChildrenOfWrong : ChangeSpec := { name := "fnExactChildrenOf", fn := fun _ => fun
  | [d] => { results := [.lit (.bool false)], args := [d] }
  | _ => none }
def FnExactChildrenOfWrongFalsely : Prop := fnExactChildrenOfRow.holds Try.pinned (OpenSpec.ofChange fnExactChildrenOfWrong)

/- THE SECOND FORM. 'bulk': how many values and letters a reading holds, each counted each time it is reached (what is shared counts as often as it is met; a slice's spare places count too). A statement '..UptoSaid' is the law's where the arguments, and the package variables that the reading takes, are together of bulk at most 1048576: NARROWER than '..Said'. Prove '..Said' where nothing that the law and all that it calls make is longer than what came in: it says more and counts as full. Else prove '..UptoSaid'. A law counts once. -/
mutual
def uptoBulk {H : Type} : DataW H → Nat
  | .lit (.string bytes) => bytes.length + 1
  | .lit _ => 1
  | .nil => 1
  | .ptr d => uptoBulk d + 1
  | .slice elems spare => uptoBulkAll elems + uptoBulkAll spare + 1
  | .agg parts => uptoBulkAll parts + 1
  | .iface _ d => uptoBulk d + 1
  | .map entries => uptoBulkEntries entries + 1
  | .held _ => 1
def uptoBulkAll {H : Type} : List (DataW H) → Nat
  | [] => 0
  | d :: r => uptoBulk d + uptoBulkAll r
def uptoBulkEntries {H : Type} : List (Lit × DataW H) → Nat
  | [] => 0
  | x :: r => uptoBulkEntry x + uptoBulkEntries r
def uptoBulkEntry {H : Type} : Lit × DataW H → Nat
  | (.string bytes, d) => bytes.length + uptoBulk d + 1
  | (_, d) => uptoBulk d + 1
 end
def uptoSmall : (H : Type) → List (DataW H) → Bool := fun _ ds => decide (uptoBulkAll ds ≤ 1048576)
def OpenSpec.upto (s : _root_.Go.ChangeSpec) : _root_.Go.OpenSpec := { _root_.Go.OpenSpec.ofChange s with cond := some uptoSmall }

/-- 'laws.FnExactExpandFraction', WHERE WHAT IT READS IS OF BULK AT MOST 1048576: true; the input reads as it did. -/
def fnExactExpandFractionUptoRow : OpenClaim := { program := "ytbpaihbpaeoljaa", sum := "e88a39b783e4f0b3cd3af8341febe1bb431f84310abba340d104d195b9100f78", func := "loop.example/g01007/laws.FnExactExpandFraction", spec := "fnExactExpandFraction", apart := false, narrowed := true }
def FnExactExpandFractionUptoSaid : Prop := fnExactExpandFractionUptoRow.holds Try.pinned (OpenSpec.upto fnExactExpandFractionSpec)

/-- 'laws.FnExactOtherForm', WHERE WHAT IT READS IS OF BULK AT MOST 1048576: true; the input reads as it did. -/
def fnExactOtherFormUptoRow : OpenClaim := { program := "ytbpaihbpaeoljaa", sum := "e88a39b783e4f0b3cd3af8341febe1bb431f84310abba340d104d195b9100f78", func := "loop.example/g01007/laws.FnExactOtherForm", spec := "fnExactOtherForm", unfollowed := true, recurses := true, apart := false, narrowed := true }
def FnExactOtherFormUptoSaid : Prop := fnExactOtherFormUptoRow.holds Try.pinned (OpenSpec.upto fnExactOtherFormSpec)

/-- 'laws.FnExactCompareTerms', WHERE WHAT IT READS IS OF BULK AT MOST 1048576: true; the input reads as it did. -/
def fnExactCompareTermsUptoRow : OpenClaim := { program := "ytbpaihbpaeoljaa", sum := "e88a39b783e4f0b3cd3af8341febe1bb431f84310abba340d104d195b9100f78", func := "loop.example/g01007/laws.FnExactCompareTerms", spec := "fnExactCompareTerms", unfollowed := true, recurses := true, apart := false, narrowed := true }
def FnExactCompareTermsUptoSaid : Prop := fnExactCompareTermsUptoRow.holds Try.pinned (OpenSpec.upto fnExactCompareTermsSpec)

/-- 'laws.FnContinuants', WHERE WHAT IT READS IS OF BULK AT MOST 1048576: true; the input reads as it did. -/
def fnContinuantsUptoRow : OpenClaim := { program := "ytbpaihbpaeoljaa", sum := "e88a39b783e4f0b3cd3af8341febe1bb431f84310abba340d104d195b9100f78", func := "loop.example/g01007/laws.FnContinuants", spec := "fnContinuants", unfollowed := true, recurses := true, apart := false, narrowed := true }
def FnContinuantsUptoSaid : Prop := fnContinuantsUptoRow.holds Try.pinned (OpenSpec.upto fnContinuantsSpec)

/-- 'laws.FnExactLevelOf', WHERE WHAT IT READS IS OF BULK AT MOST 1048576: true; the input reads as it did. -/
def fnExactLevelOfUptoRow : OpenClaim := { program := "ytbpaihbpaeoljaa", sum := "e88a39b783e4f0b3cd3af8341febe1bb431f84310abba340d104d195b9100f78", func := "loop.example/g01007/laws.FnExactLevelOf", spec := "fnExactLevelOf", apart := false, narrowed := true }
def FnExactLevelOfUptoSaid : Prop := fnExactLevelOfUptoRow.holds Try.pinned (OpenSpec.upto fnExactLevelOfSpec)

/-- 'laws.FnExactSimplestBetween', WHERE WHAT IT READS IS OF BULK AT MOST 1048576: true; the input reads as it did. -/
def fnExactSimplestBetweenUptoRow : OpenClaim := { program := "ytbpaihbpaeoljaa", sum := "e88a39b783e4f0b3cd3af8341febe1bb431f84310abba340d104d195b9100f78", func := "loop.example/g01007/laws.FnExactSimplestBetween", spec := "fnExactSimplestBetween", recurses := true, apart := false, narrowed := true }
def FnExactSimplestBetweenUptoSaid : Prop := fnExactSimplestBetweenUptoRow.holds Try.pinned (OpenSpec.upto fnExactSimplestBetweenSpec)

/-- 'laws.FnExactValueOfTerms', WHERE WHAT IT READS IS OF BULK AT MOST 1048576: true; the input reads as it did. -/
def fnExactValueOfTermsUptoRow : OpenClaim := { program := "ytbpaihbpaeoljaa", sum := "e88a39b783e4f0b3cd3af8341febe1bb431f84310abba340d104d195b9100f78", func := "loop.example/g01007/laws.FnExactValueOfTerms", spec := "fnExactValueOfTerms", unfollowed := true, recurses := true, apart := false, narrowed := true }
def FnExactValueOfTermsUptoSaid : Prop := fnExactValueOfTermsUptoRow.holds Try.pinned (OpenSpec.upto fnExactValueOfTermsSpec)

/-- 'laws.FnExactBoundsOf', WHERE WHAT IT READS IS OF BULK AT MOST 1048576: true; the input reads as it did. -/
def fnExactBoundsOfUptoRow : OpenClaim := { program := "ytbpaihbpaeoljaa", sum := "e88a39b783e4f0b3cd3af8341febe1bb431f84310abba340d104d195b9100f78", func := "loop.example/g01007/laws.FnExactBoundsOf", spec := "fnExactBoundsOf", apart := false, narrowed := true }
def FnExactBoundsOfUptoSaid : Prop := fnExactBoundsOfUptoRow.holds Try.pinned (OpenSpec.upto fnExactBoundsOfSpec)

/-- 'laws.FnExactPathTo', WHERE WHAT IT READS IS OF BULK AT MOST 1048576: true; the input reads as it did. -/
def fnExactPathToUptoRow : OpenClaim := { program := "ytbpaihbpaeoljaa", sum := "e88a39b783e4f0b3cd3af8341febe1bb431f84310abba340d104d195b9100f78", func := "loop.example/g01007/laws.FnExactPathTo", spec := "fnExactPathTo", apart := false, narrowed := true }
def FnExactPathToUptoSaid : Prop := fnExactPathToUptoRow.holds Try.pinned (OpenSpec.upto fnExactPathToSpec)

/-- 'laws.FnExactFractionAtPath', WHERE WHAT IT READS IS OF BULK AT MOST 1048576: true; the input reads as it did. -/
def fnExactFractionAtPathUptoRow : OpenClaim := { program := "ytbpaihbpaeoljaa", sum := "e88a39b783e4f0b3cd3af8341febe1bb431f84310abba340d104d195b9100f78", func := "loop.example/g01007/laws.FnExactFractionAtPath", spec := "fnExactFractionAtPath", apart := false, narrowed := true }
def FnExactFractionAtPathUptoSaid : Prop := fnExactFractionAtPathUptoRow.holds Try.pinned (OpenSpec.upto fnExactFractionAtPathSpec)

/-- 'laws.FnExactConvergentsOf', WHERE WHAT IT READS IS OF BULK AT MOST 1048576: true; the input reads as it did. -/
def fnExactConvergentsOfUptoRow : OpenClaim := { program := "ytbpaihbpaeoljaa", sum := "e88a39b783e4f0b3cd3af8341febe1bb431f84310abba340d104d195b9100f78", func := "loop.example/g01007/laws.FnExactConvergentsOf", spec := "fnExactConvergentsOf", unfollowed := true, recurses := true, apart := false, narrowed := true }
def FnExactConvergentsOfUptoSaid : Prop := fnExactConvergentsOfUptoRow.holds Try.pinned (OpenSpec.upto fnExactConvergentsOfSpec)

/-- 'laws.FnExactChildrenOf', WHERE WHAT IT READS IS OF BULK AT MOST 1048576: true; the input reads as it did. -/
def fnExactChildrenOfUptoRow : OpenClaim := { program := "ytbpaihbpaeoljaa", sum := "e88a39b783e4f0b3cd3af8341febe1bb431f84310abba340d104d195b9100f78", func := "loop.example/g01007/laws.FnExactChildrenOf", spec := "fnExactChildrenOf", apart := false, narrowed := true }
def FnExactChildrenOfUptoSaid : Prop := fnExactChildrenOfUptoRow.holds Try.pinned (OpenSpec.upto fnExactChildrenOfSpec)

end Rows
end Go.Proofs.Ytbpaihbpaeoljaa

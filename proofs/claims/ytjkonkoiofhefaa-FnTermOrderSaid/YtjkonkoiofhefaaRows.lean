/-
  No cell of these rows narrows 'for every input' (looked for: loops, veiled, ifaces, maps, wideKeys, modest, calm, conditions, laid).
  DERIVED. THE GIVEN ROWS OF THIS SEAT. 9 by the template 'for every input the law returns true; each argument reads behind the call as it read before'; 0 by the template 'total and deterministic' (their statements: YtjkonkoiofhefaaTotals.lean).
  GIVEN WITH THE SEED: the statements are not yours to turn. If you find one false, say at which input.
  Laid BY PROGRAM, IN A SANDBOX (cutbox-rows.mjs): the forced cells as the released guide's own fill.sh prints them over the translation 5624e6d4c568c03c… (all of the seat's roots in one cut). By AI agents, Wed Nov 11 2026. No macro, syntax, notation, axiom, sorry.
-/
import Derived.Test.YtjkonkoiofhefaaChecked
import GoSem.Claim
import GoSem.ClaimJoined
import GoSem.ClaimMapViews
import Derived.JoinedTies
import Derived.KernelRfl
namespace Go.Proofs.Ytjkonkoiofhefaa
/- THE CELL 'sum', in the pinned program and in every row, IS THE sha256 OF THE DUMP (.gsa) THAT YtjkonkoiofhefaaProg.lean LOADS. Nothing in Lean hashes anything: it is a label: what it is worth is what the hold of that sum in a sandbox is worth. -/
noncomputable def Try.pinned : Pinned := { name := "ytjkonkoiofhefaa", sum := "5624e6d4c568c03ce2d8fa6880728ac28fc7d72445ddb7f85dd94cf29d7d5bcc", checked := Try.checked }
namespace Rows
def none {H : Type} : Left H := { results := [], args := [] }

/-- 'laws.FnExactValueOfSigned': WHATEVER THE INPUT: true; the input reads as it did. -/
def fnExactValueOfSignedSpec : ChangeSpec := { name := "fnExactValueOfSigned", fn := fun _ => fun
  | [d] => { results := [.lit (.bool true)], args := [d] }
  | _ => none }
def fnExactValueOfSignedRow : OpenClaim := { program := "ytjkonkoiofhefaa", sum := "5624e6d4c568c03ce2d8fa6880728ac28fc7d72445ddb7f85dd94cf29d7d5bcc", func := "loop.example/g01007/laws.FnExactValueOfSigned", spec := "fnExactValueOfSigned", unfollowed := true, recurses := true, apart := false }
def FnExactValueOfSignedSaid : Prop := fnExactValueOfSignedRow.holds Try.pinned (OpenSpec.ofChange fnExactValueOfSignedSpec)

/-- ITS FALSE NEIGHBOUR: 'it returns false'. Refute it at one input. -/
def fnExactValueOfSignedWrong : ChangeSpec := { name := "fnExactValueOfSigned", fn := fun _ => fun
  | [d] => { results := [.lit (.bool false)], args := [d] }
  | _ => none }
def FnExactValueOfSignedWrongFalsely : Prop := fnExactValueOfSignedRow.holds Try.pinned (OpenSpec.ofChange fnExactValueOfSignedWrong)

/-- 'laws.FnTermOrder': WHATEVER THE INPUT: true; the input reads as it did. -/
def fnTermOrderSpec : ChangeSpec := { name := "fnTermOrder", fn := fun _ => fun
  | [d] => { results := [.lit (.bool true)], args := [d] }
  | _ => none }
def fnTermOrderRow : OpenClaim := { program := "ytjkonkoiofhefaa", sum := "5624e6d4c568c03ce2d8fa6880728ac28fc7d72445ddb7f85dd94cf29d7d5bcc", func := "loop.example/g01007/laws.FnTermOrder", spec := "fnTermOrder", unfollowed := true, recurses := true, apart := false }
def FnTermOrderSaid : Prop := fnTermOrderRow.holds Try.pinned (OpenSpec.ofChange fnTermOrderSpec)

/-- ITS FALSE NEIGHBOUR: 'it returns false'. Refute it at one input. -/
def fnTermOrderWrong : ChangeSpec := { name := "fnTermOrder", fn := fun _ => fun
  | [d] => { results := [.lit (.bool false)], args := [d] }
  | _ => none }
def FnTermOrderWrongFalsely : Prop := fnTermOrderRow.holds Try.pinned (OpenSpec.ofChange fnTermOrderWrong)

/-- 'laws.FnExactIsAncestor': WHATEVER THE INPUT: true; the input reads as it did. -/
def fnExactIsAncestorSpec : ChangeSpec := { name := "fnExactIsAncestor", fn := fun _ => fun
  | [d1, d2] => { results := [.lit (.bool true)], args := [d1, d2] }
  | _ => none }
def fnExactIsAncestorRow : OpenClaim := { program := "ytjkonkoiofhefaa", sum := "5624e6d4c568c03ce2d8fa6880728ac28fc7d72445ddb7f85dd94cf29d7d5bcc", func := "loop.example/g01007/laws.FnExactIsAncestor", spec := "fnExactIsAncestor", apart := false }
def FnExactIsAncestorSaid : Prop := fnExactIsAncestorRow.holds Try.pinned (OpenSpec.ofChange fnExactIsAncestorSpec)

/-- ITS FALSE NEIGHBOUR: 'it returns false'. Refute it at one input. -/
def fnExactIsAncestorWrong : ChangeSpec := { name := "fnExactIsAncestor", fn := fun _ => fun
  | [d1, d2] => { results := [.lit (.bool false)], args := [d1, d2] }
  | _ => none }
def FnExactIsAncestorWrongFalsely : Prop := fnExactIsAncestorRow.holds Try.pinned (OpenSpec.ofChange fnExactIsAncestorWrong)

/-- 'laws.FnExactExpandSigned': WHATEVER THE INPUT: true; the input reads as it did. -/
def fnExactExpandSignedSpec : ChangeSpec := { name := "fnExactExpandSigned", fn := fun _ => fun
  | [d1, d2] => { results := [.lit (.bool true)], args := [d1, d2] }
  | _ => none }
def fnExactExpandSignedRow : OpenClaim := { program := "ytjkonkoiofhefaa", sum := "5624e6d4c568c03ce2d8fa6880728ac28fc7d72445ddb7f85dd94cf29d7d5bcc", func := "loop.example/g01007/laws.FnExactExpandSigned", spec := "fnExactExpandSigned", unfollowed := true, recurses := true, apart := false }
def FnExactExpandSignedSaid : Prop := fnExactExpandSignedRow.holds Try.pinned (OpenSpec.ofChange fnExactExpandSignedSpec)

/-- ITS FALSE NEIGHBOUR: 'it returns false'. Refute it at one input. -/
def fnExactExpandSignedWrong : ChangeSpec := { name := "fnExactExpandSigned", fn := fun _ => fun
  | [d1, d2] => { results := [.lit (.bool false)], args := [d1, d2] }
  | _ => none }
def FnExactExpandSignedWrongFalsely : Prop := fnExactExpandSignedRow.holds Try.pinned (OpenSpec.ofChange fnExactExpandSignedWrong)

/-- 'laws.FnExactSignedConvergents': WHATEVER THE INPUT: true; the input reads as it did. -/
def fnExactSignedConvergentsSpec : ChangeSpec := { name := "fnExactSignedConvergents", fn := fun _ => fun
  | [d] => { results := [.lit (.bool true)], args := [d] }
  | _ => none }
def fnExactSignedConvergentsRow : OpenClaim := { program := "ytjkonkoiofhefaa", sum := "5624e6d4c568c03ce2d8fa6880728ac28fc7d72445ddb7f85dd94cf29d7d5bcc", func := "loop.example/g01007/laws.FnExactSignedConvergents", spec := "fnExactSignedConvergents", unfollowed := true, recurses := true, apart := false }
def FnExactSignedConvergentsSaid : Prop := fnExactSignedConvergentsRow.holds Try.pinned (OpenSpec.ofChange fnExactSignedConvergentsSpec)

/-- ITS FALSE NEIGHBOUR: 'it returns false'. Refute it at one input. -/
def fnExactSignedConvergentsWrong : ChangeSpec := { name := "fnExactSignedConvergents", fn := fun _ => fun
  | [d] => { results := [.lit (.bool false)], args := [d] }
  | _ => none }
def FnExactSignedConvergentsWrongFalsely : Prop := fnExactSignedConvergentsRow.holds Try.pinned (OpenSpec.ofChange fnExactSignedConvergentsWrong)

/-- 'laws.FnExactSignedLengths': WHATEVER THE INPUT: true; the input reads as it did. -/
def fnExactSignedLengthsSpec : ChangeSpec := { name := "fnExactSignedLengths", fn := fun _ => fun
  | [d] => { results := [.lit (.bool true)], args := [d] }
  | _ => none }
def fnExactSignedLengthsRow : OpenClaim := { program := "ytjkonkoiofhefaa", sum := "5624e6d4c568c03ce2d8fa6880728ac28fc7d72445ddb7f85dd94cf29d7d5bcc", func := "loop.example/g01007/laws.FnExactSignedLengths", spec := "fnExactSignedLengths", unfollowed := true, recurses := true, apart := false }
def FnExactSignedLengthsSaid : Prop := fnExactSignedLengthsRow.holds Try.pinned (OpenSpec.ofChange fnExactSignedLengthsSpec)

/-- ITS FALSE NEIGHBOUR: 'it returns false'. Refute it at one input. -/
def fnExactSignedLengthsWrong : ChangeSpec := { name := "fnExactSignedLengths", fn := fun _ => fun
  | [d] => { results := [.lit (.bool false)], args := [d] }
  | _ => none }
def FnExactSignedLengthsWrongFalsely : Prop := fnExactSignedLengthsRow.holds Try.pinned (OpenSpec.ofChange fnExactSignedLengthsWrong)

/-- 'laws.FnExactTermsFromSigned': WHATEVER THE INPUT: true; the input reads as it did. -/
def fnExactTermsFromSignedSpec : ChangeSpec := { name := "fnExactTermsFromSigned", fn := fun _ => fun
  | [d] => { results := [.lit (.bool true)], args := [d] }
  | _ => none }
def fnExactTermsFromSignedRow : OpenClaim := { program := "ytjkonkoiofhefaa", sum := "5624e6d4c568c03ce2d8fa6880728ac28fc7d72445ddb7f85dd94cf29d7d5bcc", func := "loop.example/g01007/laws.FnExactTermsFromSigned", spec := "fnExactTermsFromSigned", unfollowed := true, recurses := true, apart := false }
def FnExactTermsFromSignedSaid : Prop := fnExactTermsFromSignedRow.holds Try.pinned (OpenSpec.ofChange fnExactTermsFromSignedSpec)

/-- ITS FALSE NEIGHBOUR: 'it returns false'. Refute it at one input. -/
def fnExactTermsFromSignedWrong : ChangeSpec := { name := "fnExactTermsFromSigned", fn := fun _ => fun
  | [d] => { results := [.lit (.bool false)], args := [d] }
  | _ => none }
def FnExactTermsFromSignedWrongFalsely : Prop := fnExactTermsFromSignedRow.holds Try.pinned (OpenSpec.ofChange fnExactTermsFromSignedWrong)

/-- 'laws.FnExactSignedFromTerms': WHATEVER THE INPUT: true; the input reads as it did. -/
def fnExactSignedFromTermsSpec : ChangeSpec := { name := "fnExactSignedFromTerms", fn := fun _ => fun
  | [d1, d2] => { results := [.lit (.bool true)], args := [d1, d2] }
  | _ => none }
def fnExactSignedFromTermsRow : OpenClaim := { program := "ytjkonkoiofhefaa", sum := "5624e6d4c568c03ce2d8fa6880728ac28fc7d72445ddb7f85dd94cf29d7d5bcc", func := "loop.example/g01007/laws.FnExactSignedFromTerms", spec := "fnExactSignedFromTerms", unfollowed := true, recurses := true, apart := false }
def FnExactSignedFromTermsSaid : Prop := fnExactSignedFromTermsRow.holds Try.pinned (OpenSpec.ofChange fnExactSignedFromTermsSpec)

/-- ITS FALSE NEIGHBOUR: 'it returns false'. Refute it at one input. -/
def fnExactSignedFromTermsWrong : ChangeSpec := { name := "fnExactSignedFromTerms", fn := fun _ => fun
  | [d1, d2] => { results := [.lit (.bool false)], args := [d1, d2] }
  | _ => none }
def FnExactSignedFromTermsWrongFalsely : Prop := fnExactSignedFromTermsRow.holds Try.pinned (OpenSpec.ofChange fnExactSignedFromTermsWrong)

/-- 'laws.FnExactKindOfSigned': WHATEVER THE INPUT: true; the input reads as it did. -/
def fnExactKindOfSignedSpec : ChangeSpec := { name := "fnExactKindOfSigned", fn := fun _ => fun
  | [d1, d2] => { results := [.lit (.bool true)], args := [d1, d2] }
  | _ => none }
def fnExactKindOfSignedRow : OpenClaim := { program := "ytjkonkoiofhefaa", sum := "5624e6d4c568c03ce2d8fa6880728ac28fc7d72445ddb7f85dd94cf29d7d5bcc", func := "loop.example/g01007/laws.FnExactKindOfSigned", spec := "fnExactKindOfSigned", unfollowed := true, recurses := true, apart := false }
def FnExactKindOfSignedSaid : Prop := fnExactKindOfSignedRow.holds Try.pinned (OpenSpec.ofChange fnExactKindOfSignedSpec)

/-- ITS FALSE NEIGHBOUR: 'it returns false'. Refute it at one input. -/
def fnExactKindOfSignedWrong : ChangeSpec := { name := "fnExactKindOfSigned", fn := fun _ => fun
  | [d1, d2] => { results := [.lit (.bool false)], args := [d1, d2] }
  | _ => none }
def FnExactKindOfSignedWrongFalsely : Prop := fnExactKindOfSignedRow.holds Try.pinned (OpenSpec.ofChange fnExactKindOfSignedWrong)

/- THE SECOND FORM. 'bulk': how many values and letters a reading holds, each counted each time it is reached (what is shared counts as often as it is met; a slice's spare places count too). A statement '..UptoSaid' is the law's where the arguments, and the package variables that the reading takes, are together of bulk at most 1048576: NARROWER than '..Said'. Prove '..Said' where nothing that the law and all that it calls make is longer than what came in: it says more and counts as full. Else prove '..UptoSaid'. A law counts once. -/
mutual
def uptoBulk {H : Type} : DataW H → Nat
  | .lit (.string bytes) => bytes.length + 1
  | .lit _ => 1
  | .nil => 1
  | .ptr d => uptoBulk d + 1
  | .slice elems spare => uptoBulkAll elems + uptoBulkAll spare + 1
  | .agg parts => uptoBulkAll parts + 1
  | .iface _ d => uptoBulk d + 1
  | .map entries => uptoBulkEntries entries + 1
  | .held _ => 1
def uptoBulkAll {H : Type} : List (DataW H) → Nat
  | [] => 0
  | d :: r => uptoBulk d + uptoBulkAll r
def uptoBulkEntries {H : Type} : List (Lit × DataW H) → Nat
  | [] => 0
  | x :: r => uptoBulkEntry x + uptoBulkEntries r
def uptoBulkEntry {H : Type} : Lit × DataW H → Nat
  | (.string bytes, d) => bytes.length + uptoBulk d + 1
  | (_, d) => uptoBulk d + 1
 end
def uptoSmall : (H : Type) → List (DataW H) → Bool := fun _ ds => decide (uptoBulkAll ds ≤ 1048576)
def OpenSpec.upto (s : _root_.Go.ChangeSpec) : _root_.Go.OpenSpec := { _root_.Go.OpenSpec.ofChange s with cond := some uptoSmall }

/-- 'laws.FnExactValueOfSigned', WHERE WHAT IT READS IS OF BULK AT MOST 1048576: true; the input reads as it did. -/
def fnExactValueOfSignedUptoRow : OpenClaim := { program := "ytjkonkoiofhefaa", sum := "5624e6d4c568c03ce2d8fa6880728ac28fc7d72445ddb7f85dd94cf29d7d5bcc", func := "loop.example/g01007/laws.FnExactValueOfSigned", spec := "fnExactValueOfSigned", unfollowed := true, recurses := true, apart := false, narrowed := true }
def FnExactValueOfSignedUptoSaid : Prop := fnExactValueOfSignedUptoRow.holds Try.pinned (OpenSpec.upto fnExactValueOfSignedSpec)

/-- 'laws.FnTermOrder', WHERE WHAT IT READS IS OF BULK AT MOST 1048576: true; the input reads as it did. -/
def fnTermOrderUptoRow : OpenClaim := { program := "ytjkonkoiofhefaa", sum := "5624e6d4c568c03ce2d8fa6880728ac28fc7d72445ddb7f85dd94cf29d7d5bcc", func := "loop.example/g01007/laws.FnTermOrder", spec := "fnTermOrder", unfollowed := true, recurses := true, apart := false, narrowed := true }
def FnTermOrderUptoSaid : Prop := fnTermOrderUptoRow.holds Try.pinned (OpenSpec.upto fnTermOrderSpec)

/-- 'laws.FnExactIsAncestor', WHERE WHAT IT READS IS OF BULK AT MOST 1048576: true; the input reads as it did. -/
def fnExactIsAncestorUptoRow : OpenClaim := { program := "ytjkonkoiofhefaa", sum := "5624e6d4c568c03ce2d8fa6880728ac28fc7d72445ddb7f85dd94cf29d7d5bcc", func := "loop.example/g01007/laws.FnExactIsAncestor", spec := "fnExactIsAncestor", apart := false, narrowed := true }
def FnExactIsAncestorUptoSaid : Prop := fnExactIsAncestorUptoRow.holds Try.pinned (OpenSpec.upto fnExactIsAncestorSpec)

/-- 'laws.FnExactExpandSigned', WHERE WHAT IT READS IS OF BULK AT MOST 1048576: true; the input reads as it did. -/
def fnExactExpandSignedUptoRow : OpenClaim := { program := "ytjkonkoiofhefaa", sum := "5624e6d4c568c03ce2d8fa6880728ac28fc7d72445ddb7f85dd94cf29d7d5bcc", func := "loop.example/g01007/laws.FnExactExpandSigned", spec := "fnExactExpandSigned", unfollowed := true, recurses := true, apart := false, narrowed := true }
def FnExactExpandSignedUptoSaid : Prop := fnExactExpandSignedUptoRow.holds Try.pinned (OpenSpec.upto fnExactExpandSignedSpec)

/-- 'laws.FnExactSignedConvergents', WHERE WHAT IT READS IS OF BULK AT MOST 1048576: true; the input reads as it did. -/
def fnExactSignedConvergentsUptoRow : OpenClaim := { program := "ytjkonkoiofhefaa", sum := "5624e6d4c568c03ce2d8fa6880728ac28fc7d72445ddb7f85dd94cf29d7d5bcc", func := "loop.example/g01007/laws.FnExactSignedConvergents", spec := "fnExactSignedConvergents", unfollowed := true, recurses := true, apart := false, narrowed := true }
def FnExactSignedConvergentsUptoSaid : Prop := fnExactSignedConvergentsUptoRow.holds Try.pinned (OpenSpec.upto fnExactSignedConvergentsSpec)

/-- 'laws.FnExactSignedLengths', WHERE WHAT IT READS IS OF BULK AT MOST 1048576: true; the input reads as it did. -/
def fnExactSignedLengthsUptoRow : OpenClaim := { program := "ytjkonkoiofhefaa", sum := "5624e6d4c568c03ce2d8fa6880728ac28fc7d72445ddb7f85dd94cf29d7d5bcc", func := "loop.example/g01007/laws.FnExactSignedLengths", spec := "fnExactSignedLengths", unfollowed := true, recurses := true, apart := false, narrowed := true }
def FnExactSignedLengthsUptoSaid : Prop := fnExactSignedLengthsUptoRow.holds Try.pinned (OpenSpec.upto fnExactSignedLengthsSpec)

/-- 'laws.FnExactTermsFromSigned', WHERE WHAT IT READS IS OF BULK AT MOST 1048576: true; the input reads as it did. -/
def fnExactTermsFromSignedUptoRow : OpenClaim := { program := "ytjkonkoiofhefaa", sum := "5624e6d4c568c03ce2d8fa6880728ac28fc7d72445ddb7f85dd94cf29d7d5bcc", func := "loop.example/g01007/laws.FnExactTermsFromSigned", spec := "fnExactTermsFromSigned", unfollowed := true, recurses := true, apart := false, narrowed := true }
def FnExactTermsFromSignedUptoSaid : Prop := fnExactTermsFromSignedUptoRow.holds Try.pinned (OpenSpec.upto fnExactTermsFromSignedSpec)

/-- 'laws.FnExactSignedFromTerms', WHERE WHAT IT READS IS OF BULK AT MOST 1048576: true; the input reads as it did. -/
def fnExactSignedFromTermsUptoRow : OpenClaim := { program := "ytjkonkoiofhefaa", sum := "5624e6d4c568c03ce2d8fa6880728ac28fc7d72445ddb7f85dd94cf29d7d5bcc", func := "loop.example/g01007/laws.FnExactSignedFromTerms", spec := "fnExactSignedFromTerms", unfollowed := true, recurses := true, apart := false, narrowed := true }
def FnExactSignedFromTermsUptoSaid : Prop := fnExactSignedFromTermsUptoRow.holds Try.pinned (OpenSpec.upto fnExactSignedFromTermsSpec)

/-- 'laws.FnExactKindOfSigned', WHERE WHAT IT READS IS OF BULK AT MOST 1048576: true; the input reads as it did. -/
def fnExactKindOfSignedUptoRow : OpenClaim := { program := "ytjkonkoiofhefaa", sum := "5624e6d4c568c03ce2d8fa6880728ac28fc7d72445ddb7f85dd94cf29d7d5bcc", func := "loop.example/g01007/laws.FnExactKindOfSigned", spec := "fnExactKindOfSigned", unfollowed := true, recurses := true, apart := false, narrowed := true }
def FnExactKindOfSignedUptoSaid : Prop := fnExactKindOfSignedUptoRow.holds Try.pinned (OpenSpec.upto fnExactKindOfSignedSpec)

end Rows
end Go.Proofs.Ytjkonkoiofhefaa

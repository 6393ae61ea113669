/-
  No cell of these rows narrows 'for every input' (looked for: loops, veiled, ifaces, maps, wideKeys, modest, calm, conditions, laid).
  DERIVED. THE GIVEN ROWS OF THIS SEAT. 11 by the template 'for every input the law returns true; each argument reads behind the call as it read before'; 0 by the template 'total and deterministic' (their statements: YtbchokafjnehoaaTotals.lean).
  GIVEN WITH THE SEED: the statements are not yours to turn. If you find one false, say at which input.
  Laid BY PROGRAM, IN A SANDBOX (cutbox-rows.mjs): the forced cells as the released guide's own fill.sh prints them over the translation fae1cd643a4c8b16… (all of the seat's roots in one cut). By AI agents, Wed Nov 11 2026. No macro, syntax, notation, axiom, sorry.
-/
import Derived.Test.YtbchokafjnehoaaChecked
import GoSem.Claim
import GoSem.ClaimJoined
import GoSem.ClaimMapViews
import Derived.JoinedTies
import Derived.KernelRfl
namespace Go.Proofs.Ytbchokafjnehoaa
/- THE CELL 'sum', in the pinned program and in every row, IS THE sha256 OF THE DUMP (.gsa) THAT YtbchokafjnehoaaProg.lean LOADS. Nothing in Lean hashes anything: it is a label: what it is worth is what the hold of that sum in a sandbox is worth. -/
noncomputable def Try.pinned : Pinned := { name := "ytbchokafjnehoaa", sum := "fae1cd643a4c8b16f517e4832f5f8284273dcb263459b3bafb4b9282a551f6ef", checked := Try.checked }
namespace Rows
def none {H : Type} : Left H := { results := [], args := [] }

/-- 'laws.FnExactConstants': WHATEVER THE INPUT: true; the input reads as it did. -/
def fnExactConstantsSpec : ChangeSpec := { name := "fnExactConstants", fn := fun _ => fun
  | [] => { results := [.lit (.bool true)], args := [] }
  | _ => none }
def fnExactConstantsRow : OpenClaim := { program := "ytbchokafjnehoaa", sum := "fae1cd643a4c8b16f517e4832f5f8284273dcb263459b3bafb4b9282a551f6ef", func := "loop.example/g01007/laws.FnExactConstants", spec := "fnExactConstants", apart := false }
def FnExactConstantsSaid : Prop := fnExactConstantsRow.holds Try.pinned (OpenSpec.ofChange fnExactConstantsSpec)

/-- ITS FALSE NEIGHBOUR: 'it returns false'. Refute it at one input. -/
def fnExactConstantsWrong : ChangeSpec := { name := "fnExactConstants", fn := fun _ => fun
  | [] => { results := [.lit (.bool false)], args := [] }
  | _ => none }
def FnExactConstantsWrongFalsely : Prop := fnExactConstantsRow.holds Try.pinned (OpenSpec.ofChange fnExactConstantsWrong)

/-- 'laws.FnExactCodeName': WHATEVER THE INPUT: true; the input reads as it did. -/
def fnExactCodeNameSpec : ChangeSpec := { name := "fnExactCodeName", fn := fun _ => fun
  | [d] => { results := [.lit (.bool true)], args := [d] }
  | _ => none }
def fnExactCodeNameRow : OpenClaim := { program := "ytbchokafjnehoaa", sum := "fae1cd643a4c8b16f517e4832f5f8284273dcb263459b3bafb4b9282a551f6ef", func := "loop.example/g01007/laws.FnExactCodeName", spec := "fnExactCodeName", apart := false }
def FnExactCodeNameSaid : Prop := fnExactCodeNameRow.holds Try.pinned (OpenSpec.ofChange fnExactCodeNameSpec)

/-- ITS FALSE NEIGHBOUR: 'it returns false'. Refute it at one input. -/
def fnExactCodeNameWrong : ChangeSpec := { name := "fnExactCodeName", fn := fun _ => fun
  | [d] => { results := [.lit (.bool false)], args := [d] }
  | _ => none }
def FnExactCodeNameWrongFalsely : Prop := fnExactCodeNameRow.holds Try.pinned (OpenSpec.ofChange fnExactCodeNameWrong)

/-- 'laws.FnExactKindName': WHATEVER THE INPUT: true; the input reads as it did. -/
def fnExactKindNameSpec : ChangeSpec := { name := "fnExactKindName", fn := fun _ => fun
  | [d] => { results := [.lit (.bool true)], args := [d] }
  | _ => none }
def fnExactKindNameRow : OpenClaim := { program := "ytbchokafjnehoaa", sum := "fae1cd643a4c8b16f517e4832f5f8284273dcb263459b3bafb4b9282a551f6ef", func := "loop.example/g01007/laws.FnExactKindName", spec := "fnExactKindName", apart := false }
def FnExactKindNameSaid : Prop := fnExactKindNameRow.holds Try.pinned (OpenSpec.ofChange fnExactKindNameSpec)

/-- ITS FALSE NEIGHBOUR: 'it returns false'. Refute it at one input. -/
def fnExactKindNameWrong : ChangeSpec := { name := "fnExactKindName", fn := fun _ => fun
  | [d] => { results := [.lit (.bool false)], args := [d] }
  | _ => none }
def FnExactKindNameWrongFalsely : Prop := fnExactKindNameRow.holds Try.pinned (OpenSpec.ofChange fnExactKindNameWrong)

/-- 'laws.FnExactIsName': WHATEVER THE INPUT: true; the input reads as it did. -/
def fnExactIsNameSpec : ChangeSpec := { name := "fnExactIsName", fn := fun _ => fun
  | [d] => { results := [.lit (.bool true)], args := [d] }
  | _ => none }
def fnExactIsNameRow : OpenClaim := { program := "ytbchokafjnehoaa", sum := "fae1cd643a4c8b16f517e4832f5f8284273dcb263459b3bafb4b9282a551f6ef", func := "loop.example/g01007/laws.FnExactIsName", spec := "fnExactIsName", apart := false }
def FnExactIsNameSaid : Prop := fnExactIsNameRow.holds Try.pinned (OpenSpec.ofChange fnExactIsNameSpec)

/-- ITS FALSE NEIGHBOUR: 'it returns false'. Refute it at one input. -/
def fnExactIsNameWrong : ChangeSpec := { name := "fnExactIsName", fn := fun _ => fun
  | [d] => { results := [.lit (.bool false)], args := [d] }
  | _ => none }
def FnExactIsNameWrongFalsely : Prop := fnExactIsNameRow.holds Try.pinned (OpenSpec.ofChange fnExactIsNameWrong)

/-- 'laws.FnExactCommonTerms': WHATEVER THE INPUT: true; the input reads as it did. -/
def fnExactCommonTermsSpec : ChangeSpec := { name := "fnExactCommonTerms", fn := fun _ => fun
  | [d1, d2] => { results := [.lit (.bool true)], args := [d1, d2] }
  | _ => none }
def fnExactCommonTermsRow : OpenClaim := { program := "ytbchokafjnehoaa", sum := "fae1cd643a4c8b16f517e4832f5f8284273dcb263459b3bafb4b9282a551f6ef", func := "loop.example/g01007/laws.FnExactCommonTerms", spec := "fnExactCommonTerms", apart := false }
def FnExactCommonTermsSaid : Prop := fnExactCommonTermsRow.holds Try.pinned (OpenSpec.ofChange fnExactCommonTermsSpec)

/-- ITS FALSE NEIGHBOUR: 'it returns false'. Refute it at one input. -/
def fnExactCommonTermsWrong : ChangeSpec := { name := "fnExactCommonTerms", fn := fun _ => fun
  | [d1, d2] => { results := [.lit (.bool false)], args := [d1, d2] }
  | _ => none }
def FnExactCommonTermsWrongFalsely : Prop := fnExactCommonTermsRow.holds Try.pinned (OpenSpec.ofChange fnExactCommonTermsWrong)

/-- 'laws.FnExactValidFraction': WHATEVER THE INPUT: true; the input reads as it did. -/
def fnExactValidFractionSpec : ChangeSpec := { name := "fnExactValidFraction", fn := fun _ => fun
  | [d] => { results := [.lit (.bool true)], args := [d] }
  | _ => none }
def fnExactValidFractionRow : OpenClaim := { program := "ytbchokafjnehoaa", sum := "fae1cd643a4c8b16f517e4832f5f8284273dcb263459b3bafb4b9282a551f6ef", func := "loop.example/g01007/laws.FnExactValidFraction", spec := "fnExactValidFraction", apart := false }
def FnExactValidFractionSaid : Prop := fnExactValidFractionRow.holds Try.pinned (OpenSpec.ofChange fnExactValidFractionSpec)

/-- ITS FALSE NEIGHBOUR: 'it returns false'. Refute it at one input. -/
def fnExactValidFractionWrong : ChangeSpec := { name := "fnExactValidFraction", fn := fun _ => fun
  | [d] => { results := [.lit (.bool false)], args := [d] }
  | _ => none }
def FnExactValidFractionWrongFalsely : Prop := fnExactValidFractionRow.holds Try.pinned (OpenSpec.ofChange fnExactValidFractionWrong)

/-- 'laws.FnExactValidPath': WHATEVER THE INPUT: true; the input reads as it did. -/
def fnExactValidPathSpec : ChangeSpec := { name := "fnExactValidPath", fn := fun _ => fun
  | [d] => { results := [.lit (.bool true)], args := [d] }
  | _ => none }
def fnExactValidPathRow : OpenClaim := { program := "ytbchokafjnehoaa", sum := "fae1cd643a4c8b16f517e4832f5f8284273dcb263459b3bafb4b9282a551f6ef", func := "loop.example/g01007/laws.FnExactValidPath", spec := "fnExactValidPath", apart := false }
def FnExactValidPathSaid : Prop := fnExactValidPathRow.holds Try.pinned (OpenSpec.ofChange fnExactValidPathSpec)

/-- ITS FALSE NEIGHBOUR: 'it returns false'. Refute it at one input. -/
def fnExactValidPathWrong : ChangeSpec := { name := "fnExactValidPath", fn := fun _ => fun
  | [d] => { results := [.lit (.bool false)], args := [d] }
  | _ => none }
def FnExactValidPathWrongFalsely : Prop := fnExactValidPathRow.holds Try.pinned (OpenSpec.ofChange fnExactValidPathWrong)

/-- 'laws.FnExactValidTerms': WHATEVER THE INPUT: true; the input reads as it did. -/
def fnExactValidTermsSpec : ChangeSpec := { name := "fnExactValidTerms", fn := fun _ => fun
  | [d] => { results := [.lit (.bool true)], args := [d] }
  | _ => none }
def fnExactValidTermsRow : OpenClaim := { program := "ytbchokafjnehoaa", sum := "fae1cd643a4c8b16f517e4832f5f8284273dcb263459b3bafb4b9282a551f6ef", func := "loop.example/g01007/laws.FnExactValidTerms", spec := "fnExactValidTerms", unfollowed := true, recurses := true, apart := false }
def FnExactValidTermsSaid : Prop := fnExactValidTermsRow.holds Try.pinned (OpenSpec.ofChange fnExactValidTermsSpec)

/-- ITS FALSE NEIGHBOUR: 'it returns false'. Refute it at one input. -/
def fnExactValidTermsWrong : ChangeSpec := { name := "fnExactValidTerms", fn := fun _ => fun
  | [d] => { results := [.lit (.bool false)], args := [d] }
  | _ => none }
def FnExactValidTermsWrongFalsely : Prop := fnExactValidTermsRow.holds Try.pinned (OpenSpec.ofChange fnExactValidTermsWrong)

/-- 'laws.FnExactAreNeighbours': WHATEVER THE INPUT: true; the input reads as it did. -/
def fnExactAreNeighboursSpec : ChangeSpec := { name := "fnExactAreNeighbours", fn := fun _ => fun
  | [d1, d2] => { results := [.lit (.bool true)], args := [d1, d2] }
  | _ => none }
def fnExactAreNeighboursRow : OpenClaim := { program := "ytbchokafjnehoaa", sum := "fae1cd643a4c8b16f517e4832f5f8284273dcb263459b3bafb4b9282a551f6ef", func := "loop.example/g01007/laws.FnExactAreNeighbours", spec := "fnExactAreNeighbours", apart := false }
def FnExactAreNeighboursSaid : Prop := fnExactAreNeighboursRow.holds Try.pinned (OpenSpec.ofChange fnExactAreNeighboursSpec)

/-- ITS FALSE NEIGHBOUR: 'it returns false'. Refute it at one input. -/
def fnExactAreNeighboursWrong : ChangeSpec := { name := "fnExactAreNeighbours", fn := fun _ => fun
  | [d1, d2] => { results := [.lit (.bool false)], args := [d1, d2] }
  | _ => none }
def FnExactAreNeighboursWrongFalsely : Prop := fnExactAreNeighboursRow.holds Try.pinned (OpenSpec.ofChange fnExactAreNeighboursWrong)

/-- 'laws.FnExactSameSigned': WHATEVER THE INPUT: true; the input reads as it did. -/
def fnExactSameSignedSpec : ChangeSpec := { name := "fnExactSameSigned", fn := fun _ => fun
  | [d1, d2] => { results := [.lit (.bool true)], args := [d1, d2] }
  | _ => none }
def fnExactSameSignedRow : OpenClaim := { program := "ytbchokafjnehoaa", sum := "fae1cd643a4c8b16f517e4832f5f8284273dcb263459b3bafb4b9282a551f6ef", func := "loop.example/g01007/laws.FnExactSameSigned", spec := "fnExactSameSigned", apart := false }
def FnExactSameSignedSaid : Prop := fnExactSameSignedRow.holds Try.pinned (OpenSpec.ofChange fnExactSameSignedSpec)

/-- ITS FALSE NEIGHBOUR: 'it returns false'. Refute it at one input. -/
def fnExactSameSignedWrong : ChangeSpec := { name := "fnExactSameSigned", fn := fun _ => fun
  | [d1, d2] => { results := [.lit (.bool false)], args := [d1, d2] }
  | _ => none }
def FnExactSameSignedWrongFalsely : Prop := fnExactSameSignedRow.holds Try.pinned (OpenSpec.ofChange fnExactSameSignedWrong)

/-- 'laws.FnExactContinuantOf': WHATEVER THE INPUT: true; the input reads as it did. -/
def fnExactContinuantOfSpec : ChangeSpec := { name := "fnExactContinuantOf", fn := fun _ => fun
  | [d] => { results := [.lit (.bool true)], args := [d] }
  | _ => none }
def fnExactContinuantOfRow : OpenClaim := { program := "ytbchokafjnehoaa", sum := "fae1cd643a4c8b16f517e4832f5f8284273dcb263459b3bafb4b9282a551f6ef", func := "loop.example/g01007/laws.FnExactContinuantOf", spec := "fnExactContinuantOf", unfollowed := true, recurses := true, apart := false }
def FnExactContinuantOfSaid : Prop := fnExactContinuantOfRow.holds Try.pinned (OpenSpec.ofChange fnExactContinuantOfSpec)

/-- ITS FALSE NEIGHBOUR: 'it returns false'. Refute it at one input. -/
def fnExactContinuantOfWrong : ChangeSpec := { name := "fnExactContinuantOf", fn := fun _ => fun
  | [d] => { results := [.lit (.bool false)], args := [d] }
  | _ => none }
def FnExactContinuantOfWrongFalsely : Prop := fnExactContinuantOfRow.holds Try.pinned (OpenSpec.ofChange fnExactContinuantOfWrong)

/- THE SECOND FORM. 'bulk': how many values and letters a reading holds, each counted each time it is reached (what is shared counts as often as it is met; a slice's spare places count too). A statement '..UptoSaid' is the law's where the arguments, and the package variables that the reading takes, are together of bulk at most 1048576: NARROWER than '..Said'. Prove '..Said' where nothing that the law and all that it calls make is longer than what came in: it says more and counts as full. Else prove '..UptoSaid'. A law counts once. -/
mutual
def uptoBulk {H : Type} : DataW H → Nat
  | .lit (.string bytes) => bytes.length + 1
  | .lit _ => 1
  | .nil => 1
  | .ptr d => uptoBulk d + 1
  | .slice elems spare => uptoBulkAll elems + uptoBulkAll spare + 1
  | .agg parts => uptoBulkAll parts + 1
  | .iface _ d => uptoBulk d + 1
  | .map entries => uptoBulkEntries entries + 1
  | .held _ => 1
def uptoBulkAll {H : Type} : List (DataW H) → Nat
  | [] => 0
  | d :: r => uptoBulk d + uptoBulkAll r
def uptoBulkEntries {H : Type} : List (Lit × DataW H) → Nat
  | [] => 0
  | x :: r => uptoBulkEntry x + uptoBulkEntries r
def uptoBulkEntry {H : Type} : Lit × DataW H → Nat
  | (.string bytes, d) => bytes.length + uptoBulk d + 1
  | (_, d) => uptoBulk d + 1
 end
def uptoSmall : (H : Type) → List (DataW H) → Bool := fun _ ds => decide (uptoBulkAll ds ≤ 1048576)
def OpenSpec.upto (s : _root_.Go.ChangeSpec) : _root_.Go.OpenSpec := { _root_.Go.OpenSpec.ofChange s with cond := some uptoSmall }

/-- 'laws.FnExactConstants', WHERE WHAT IT READS IS OF BULK AT MOST 1048576: true; the input reads as it did. -/
def fnExactConstantsUptoRow : OpenClaim := { program := "ytbchokafjnehoaa", sum := "fae1cd643a4c8b16f517e4832f5f8284273dcb263459b3bafb4b9282a551f6ef", func := "loop.example/g01007/laws.FnExactConstants", spec := "fnExactConstants", apart := false, narrowed := true }
def FnExactConstantsUptoSaid : Prop := fnExactConstantsUptoRow.holds Try.pinned (OpenSpec.upto fnExactConstantsSpec)

/-- 'laws.FnExactCodeName', WHERE WHAT IT READS IS OF BULK AT MOST 1048576: true; the input reads as it did. -/
def fnExactCodeNameUptoRow : OpenClaim := { program := "ytbchokafjnehoaa", sum := "fae1cd643a4c8b16f517e4832f5f8284273dcb263459b3bafb4b9282a551f6ef", func := "loop.example/g01007/laws.FnExactCodeName", spec := "fnExactCodeName", apart := false, narrowed := true }
def FnExactCodeNameUptoSaid : Prop := fnExactCodeNameUptoRow.holds Try.pinned (OpenSpec.upto fnExactCodeNameSpec)

/-- 'laws.FnExactKindName', WHERE WHAT IT READS IS OF BULK AT MOST 1048576: true; the input reads as it did. -/
def fnExactKindNameUptoRow : OpenClaim := { program := "ytbchokafjnehoaa", sum := "fae1cd643a4c8b16f517e4832f5f8284273dcb263459b3bafb4b9282a551f6ef", func := "loop.example/g01007/laws.FnExactKindName", spec := "fnExactKindName", apart := false, narrowed := true }
def FnExactKindNameUptoSaid : Prop := fnExactKindNameUptoRow.holds Try.pinned (OpenSpec.upto fnExactKindNameSpec)

/-- 'laws.FnExactIsName', WHERE WHAT IT READS IS OF BULK AT MOST 1048576: true; the input reads as it did. -/
def fnExactIsNameUptoRow : OpenClaim := { program := "ytbchokafjnehoaa", sum := "fae1cd643a4c8b16f517e4832f5f8284273dcb263459b3bafb4b9282a551f6ef", func := "loop.example/g01007/laws.FnExactIsName", spec := "fnExactIsName", apart := false, narrowed := true }
def FnExactIsNameUptoSaid : Prop := fnExactIsNameUptoRow.holds Try.pinned (OpenSpec.upto fnExactIsNameSpec)

/-- 'laws.FnExactCommonTerms', WHERE WHAT IT READS IS OF BULK AT MOST 1048576: true; the input reads as it did. -/
def fnExactCommonTermsUptoRow : OpenClaim := { program := "ytbchokafjnehoaa", sum := "fae1cd643a4c8b16f517e4832f5f8284273dcb263459b3bafb4b9282a551f6ef", func := "loop.example/g01007/laws.FnExactCommonTerms", spec := "fnExactCommonTerms", apart := false, narrowed := true }
def FnExactCommonTermsUptoSaid : Prop := fnExactCommonTermsUptoRow.holds Try.pinned (OpenSpec.upto fnExactCommonTermsSpec)

/-- 'laws.FnExactValidFraction', WHERE WHAT IT READS IS OF BULK AT MOST 1048576: true; the input reads as it did. -/
def fnExactValidFractionUptoRow : OpenClaim := { program := "ytbchokafjnehoaa", sum := "fae1cd643a4c8b16f517e4832f5f8284273dcb263459b3bafb4b9282a551f6ef", func := "loop.example/g01007/laws.FnExactValidFraction", spec := "fnExactValidFraction", apart := false, narrowed := true }
def FnExactValidFractionUptoSaid : Prop := fnExactValidFractionUptoRow.holds Try.pinned (OpenSpec.upto fnExactValidFractionSpec)

/-- 'laws.FnExactValidPath', WHERE WHAT IT READS IS OF BULK AT MOST 1048576: true; the input reads as it did. -/
def fnExactValidPathUptoRow : OpenClaim := { program := "ytbchokafjnehoaa", sum := "fae1cd643a4c8b16f517e4832f5f8284273dcb263459b3bafb4b9282a551f6ef", func := "loop.example/g01007/laws.FnExactValidPath", spec := "fnExactValidPath", apart := false, narrowed := true }
def FnExactValidPathUptoSaid : Prop := fnExactValidPathUptoRow.holds Try.pinned (OpenSpec.upto fnExactValidPathSpec)

/-- 'laws.FnExactValidTerms', WHERE WHAT IT READS IS OF BULK AT MOST 1048576: true; the input reads as it did. -/
def fnExactValidTermsUptoRow : OpenClaim := { program := "ytbchokafjnehoaa", sum := "fae1cd643a4c8b16f517e4832f5f8284273dcb263459b3bafb4b9282a551f6ef", func := "loop.example/g01007/laws.FnExactValidTerms", spec := "fnExactValidTerms", unfollowed := true, recurses := true, apart := false, narrowed := true }
def FnExactValidTermsUptoSaid : Prop := fnExactValidTermsUptoRow.holds Try.pinned (OpenSpec.upto fnExactValidTermsSpec)

/-- 'laws.FnExactAreNeighbours', WHERE WHAT IT READS IS OF BULK AT MOST 1048576: true; the input reads as it did. -/
def fnExactAreNeighboursUptoRow : OpenClaim := { program := "ytbchokafjnehoaa", sum := "fae1cd643a4c8b16f517e4832f5f8284273dcb263459b3bafb4b9282a551f6ef", func := "loop.example/g01007/laws.FnExactAreNeighbours", spec := "fnExactAreNeighbours", apart := false, narrowed := true }
def FnExactAreNeighboursUptoSaid : Prop := fnExactAreNeighboursUptoRow.holds Try.pinned (OpenSpec.upto fnExactAreNeighboursSpec)

/-- 'laws.FnExactSameSigned', WHERE WHAT IT READS IS OF BULK AT MOST 1048576: true; the input reads as it did. -/
def fnExactSameSignedUptoRow : OpenClaim := { program := "ytbchokafjnehoaa", sum := "fae1cd643a4c8b16f517e4832f5f8284273dcb263459b3bafb4b9282a551f6ef", func := "loop.example/g01007/laws.FnExactSameSigned", spec := "fnExactSameSigned", apart := false, narrowed := true }
def FnExactSameSignedUptoSaid : Prop := fnExactSameSignedUptoRow.holds Try.pinned (OpenSpec.upto fnExactSameSignedSpec)

/-- 'laws.FnExactContinuantOf', WHERE WHAT IT READS IS OF BULK AT MOST 1048576: true; the input reads as it did. -/
def fnExactContinuantOfUptoRow : OpenClaim := { program := "ytbchokafjnehoaa", sum := "fae1cd643a4c8b16f517e4832f5f8284273dcb263459b3bafb4b9282a551f6ef", func := "loop.example/g01007/laws.FnExactContinuantOf", spec := "fnExactContinuantOf", unfollowed := true, recurses := true, apart := false, narrowed := true }
def FnExactContinuantOfUptoSaid : Prop := fnExactContinuantOfUptoRow.holds Try.pinned (OpenSpec.upto fnExactContinuantOfSpec)

end Rows
end Go.Proofs.Ytbchokafjnehoaa

/-
  DERIVED. GIVEN WITH THE SEED: THE CARDS: each row of YtnikogholldcmaaDoorRows.lean that lists a variable, with what it lists TIED to the program's text (the seventh form; the later family's looks); each row that meets fmt, with fmt's text TOLD by the authors' own Lean function (tested against real Go, not proved from fmt's source: count such statements apart). THE CARD IS WHAT COUNTS. Prove the row's statement (the work); the ties are given (YtnikogholldcmaaDoorTie.lean); close each card by the builder's one call (the guide's Derived/Test/ToyasCard.lean, 'card_holds'). Laid BY PROGRAM, IN A SANDBOX (cutbox-door.mjs). By AI agents, Wed Nov 11 2026. No macro, syntax, notation, axiom, sorry.
-/
import Derived.Test.YtnikogholldcmaaDoorRows
import GoSem.ClaimSeven
namespace Go.Proofs.YtnikogholldcmaaDoor
namespace Rows

/-- THE TIED CARD OF 'laws.FnExactReadTerms'. -/
def fnExactReadTermsCard : Claim7 := { stood := { row := fnExactReadTermsRow, standIns := [], harness := (true, "985f4529ba0fc1447bc5b60ae2f689c98430abdd63daa255f3841b5ef98c45ab"), looks := true }, kinds := [], alts := [], laidByText := true, laidKinds := [.data, .data, .data, .data, .sentinel, .sentinel, .pinned], laidTests := true, laidLooks := .later }
def FnExactReadTermsCardSaid : Prop := Claim7.holds Tryd.pinned (.plain (OpenSpec.ofChange fnExactReadTermsSpec)) fnExactReadTermsCard

/-- THE TIED CARD OF 'laws.FnExactDecimal'. -/
def fnExactDecimalCard : Claim7 := { stood := { row := fnExactDecimalRow, standIns := [], harness := (true, "985f4529ba0fc1447bc5b60ae2f689c98430abdd63daa255f3841b5ef98c45ab"), looks := true }, kinds := [], alts := [], laidByText := true, laidKinds := [.data, .data, .data], laidTests := true, laidLooks := .later }
def FnExactDecimalCardSaid : Prop := Claim7.holds Tryd.pinned (.plain (OpenSpec.ofChange fnExactDecimalSpec)) fnExactDecimalCard

/-- THE TIED CARD OF 'laws.FnExactFractionText'. -/
def fnExactFractionTextCard : Claim7 := { stood := { row := fnExactFractionTextRow, standIns := [], harness := (true, "985f4529ba0fc1447bc5b60ae2f689c98430abdd63daa255f3841b5ef98c45ab"), looks := true }, kinds := [], alts := [], laidByText := true, laidKinds := [.data, .data, .data], laidTests := true, laidLooks := .later }
def FnExactFractionTextCardSaid : Prop := Claim7.holds Tryd.pinned (.plain (OpenSpec.ofChange fnExactFractionTextSpec)) fnExactFractionTextCard

/-- THE TIED CARD OF 'laws.FnExactSplitWords'. -/
def fnExactSplitWordsCard : Claim7 := { stood := { row := fnExactSplitWordsRow, standIns := [], harness := (true, "985f4529ba0fc1447bc5b60ae2f689c98430abdd63daa255f3841b5ef98c45ab"), looks := true }, kinds := [], alts := [], laidByText := true, laidKinds := [.data, .pinned], laidTests := true, laidLooks := .later }
def FnExactSplitWordsCardSaid : Prop := Claim7.holds Tryd.pinned (.plain (OpenSpec.ofChange fnExactSplitWordsSpec)) fnExactSplitWordsCard

/-- THE TIED CARD OF 'laws.FnExactSignedText'. -/
def fnExactSignedTextCard : Claim7 := { stood := { row := fnExactSignedTextRow, standIns := [], harness := (true, "985f4529ba0fc1447bc5b60ae2f689c98430abdd63daa255f3841b5ef98c45ab"), looks := true }, kinds := [], alts := [], laidByText := true, laidKinds := [.data, .data, .data], laidTests := true, laidLooks := .later }
def FnExactSignedTextCardSaid : Prop := Claim7.holds Tryd.pinned (.plain (OpenSpec.ofChange fnExactSignedTextSpec)) fnExactSignedTextCard

/-- THE TIED CARD OF 'laws.FnExactTermsText'. -/
def fnExactTermsTextCard : Claim7 := { stood := { row := fnExactTermsTextRow, standIns := [], harness := (true, "985f4529ba0fc1447bc5b60ae2f689c98430abdd63daa255f3841b5ef98c45ab"), looks := true }, kinds := [], alts := [], laidByText := true, laidKinds := [.data, .data, .data], laidTests := true, laidLooks := .later }
def FnExactTermsTextCardSaid : Prop := Claim7.holds Tryd.pinned (.plain (OpenSpec.ofChange fnExactTermsTextSpec)) fnExactTermsTextCard

/-- THE TIED CARD OF 'laws.FnExactReadDecimal'. -/
def fnExactReadDecimalCard : Claim7 := { stood := { row := fnExactReadDecimalRow, standIns := [], harness := (true, "985f4529ba0fc1447bc5b60ae2f689c98430abdd63daa255f3841b5ef98c45ab"), looks := true }, kinds := [], alts := [], laidByText := true, laidKinds := [.data, .data, .data, .sentinel, .sentinel], laidTests := true, laidLooks := .later }
def FnExactReadDecimalCardSaid : Prop := Claim7.holds Tryd.pinned (.plain (OpenSpec.ofChange fnExactReadDecimalSpec)) fnExactReadDecimalCard

/-- THE TIED CARD OF 'laws.FnExactReadFraction'. -/
def fnExactReadFractionCard : Claim7 := { stood := { row := fnExactReadFractionRow, standIns := [], harness := (true, "985f4529ba0fc1447bc5b60ae2f689c98430abdd63daa255f3841b5ef98c45ab"), looks := true }, kinds := [], alts := [], laidByText := true, laidKinds := [.data, .data, .data, .sentinel, .sentinel], laidTests := true, laidLooks := .later }
def FnExactReadFractionCardSaid : Prop := Claim7.holds Tryd.pinned (.plain (OpenSpec.ofChange fnExactReadFractionSpec)) fnExactReadFractionCard

/-- THE TIED CARD OF 'laws.FnFields'. -/
def fnFieldsCard : Claim7 := { stood := { row := fnFieldsRow, standIns := [], harness := (true, "985f4529ba0fc1447bc5b60ae2f689c98430abdd63daa255f3841b5ef98c45ab"), looks := true }, kinds := [], alts := [], laidByText := true, laidKinds := [.data, .data, .data, .sentinel, .sentinel], laidTests := true, laidLooks := .later }
def FnFieldsCardSaid : Prop := Claim7.holds Tryd.pinned (.plain (OpenSpec.ofChange fnFieldsSpec)) fnFieldsCard

/-- THE TIED CARD OF 'laws.FnExactReadSigned'. -/
def fnExactReadSignedCard : Claim7 := { stood := { row := fnExactReadSignedRow, standIns := [], harness := (true, "985f4529ba0fc1447bc5b60ae2f689c98430abdd63daa255f3841b5ef98c45ab"), looks := true }, kinds := [], alts := [], laidByText := true, laidKinds := [.data, .data, .data, .data, .sentinel, .sentinel, .pinned], laidTests := true, laidLooks := .later }
def FnExactReadSignedCardSaid : Prop := Claim7.holds Tryd.pinned (.plain (OpenSpec.ofChange fnExactReadSignedSpec)) fnExactReadSignedCard

/-- THE SECOND FORM's CARD OF 'laws.FnExactReadTerms'. -/
def fnExactReadTermsUptoCard : Claim7 := { stood := { row := fnExactReadTermsUptoRow, standIns := [], harness := (true, "985f4529ba0fc1447bc5b60ae2f689c98430abdd63daa255f3841b5ef98c45ab"), looks := true }, kinds := [], alts := [], laidByText := true, laidKinds := [.data, .data, .data, .data, .sentinel, .sentinel, .pinned], laidTests := true, laidLooks := .later }
def FnExactReadTermsUptoCardSaid : Prop := Claim7.holds Tryd.pinned (.plain (OpenSpec.upto fnExactReadTermsSpec)) fnExactReadTermsUptoCard

/-- THE SECOND FORM's CARD OF 'laws.FnExactDecimal'. -/
def fnExactDecimalUptoCard : Claim7 := { stood := { row := fnExactDecimalUptoRow, standIns := [], harness := (true, "985f4529ba0fc1447bc5b60ae2f689c98430abdd63daa255f3841b5ef98c45ab"), looks := true }, kinds := [], alts := [], laidByText := true, laidKinds := [.data, .data, .data], laidTests := true, laidLooks := .later }
def FnExactDecimalUptoCardSaid : Prop := Claim7.holds Tryd.pinned (.plain (OpenSpec.upto fnExactDecimalSpec)) fnExactDecimalUptoCard

/-- THE SECOND FORM's CARD OF 'laws.FnExactFractionText'. -/
def fnExactFractionTextUptoCard : Claim7 := { stood := { row := fnExactFractionTextUptoRow, standIns := [], harness := (true, "985f4529ba0fc1447bc5b60ae2f689c98430abdd63daa255f3841b5ef98c45ab"), looks := true }, kinds := [], alts := [], laidByText := true, laidKinds := [.data, .data, .data], laidTests := true, laidLooks := .later }
def FnExactFractionTextUptoCardSaid : Prop := Claim7.holds Tryd.pinned (.plain (OpenSpec.upto fnExactFractionTextSpec)) fnExactFractionTextUptoCard

/-- THE SECOND FORM's CARD OF 'laws.FnExactSplitWords'. -/
def fnExactSplitWordsUptoCard : Claim7 := { stood := { row := fnExactSplitWordsUptoRow, standIns := [], harness := (true, "985f4529ba0fc1447bc5b60ae2f689c98430abdd63daa255f3841b5ef98c45ab"), looks := true }, kinds := [], alts := [], laidByText := true, laidKinds := [.data, .pinned], laidTests := true, laidLooks := .later }
def FnExactSplitWordsUptoCardSaid : Prop := Claim7.holds Tryd.pinned (.plain (OpenSpec.upto fnExactSplitWordsSpec)) fnExactSplitWordsUptoCard

/-- THE SECOND FORM's CARD OF 'laws.FnExactSignedText'. -/
def fnExactSignedTextUptoCard : Claim7 := { stood := { row := fnExactSignedTextUptoRow, standIns := [], harness := (true, "985f4529ba0fc1447bc5b60ae2f689c98430abdd63daa255f3841b5ef98c45ab"), looks := true }, kinds := [], alts := [], laidByText := true, laidKinds := [.data, .data, .data], laidTests := true, laidLooks := .later }
def FnExactSignedTextUptoCardSaid : Prop := Claim7.holds Tryd.pinned (.plain (OpenSpec.upto fnExactSignedTextSpec)) fnExactSignedTextUptoCard

/-- THE SECOND FORM's CARD OF 'laws.FnExactTermsText'. -/
def fnExactTermsTextUptoCard : Claim7 := { stood := { row := fnExactTermsTextUptoRow, standIns := [], harness := (true, "985f4529ba0fc1447bc5b60ae2f689c98430abdd63daa255f3841b5ef98c45ab"), looks := true }, kinds := [], alts := [], laidByText := true, laidKinds := [.data, .data, .data], laidTests := true, laidLooks := .later }
def FnExactTermsTextUptoCardSaid : Prop := Claim7.holds Tryd.pinned (.plain (OpenSpec.upto fnExactTermsTextSpec)) fnExactTermsTextUptoCard

/-- THE SECOND FORM's CARD OF 'laws.FnExactReadDecimal'. -/
def fnExactReadDecimalUptoCard : Claim7 := { stood := { row := fnExactReadDecimalUptoRow, standIns := [], harness := (true, "985f4529ba0fc1447bc5b60ae2f689c98430abdd63daa255f3841b5ef98c45ab"), looks := true }, kinds := [], alts := [], laidByText := true, laidKinds := [.data, .data, .data, .sentinel, .sentinel], laidTests := true, laidLooks := .later }
def FnExactReadDecimalUptoCardSaid : Prop := Claim7.holds Tryd.pinned (.plain (OpenSpec.upto fnExactReadDecimalSpec)) fnExactReadDecimalUptoCard

/-- THE SECOND FORM's CARD OF 'laws.FnExactReadFraction'. -/
def fnExactReadFractionUptoCard : Claim7 := { stood := { row := fnExactReadFractionUptoRow, standIns := [], harness := (true, "985f4529ba0fc1447bc5b60ae2f689c98430abdd63daa255f3841b5ef98c45ab"), looks := true }, kinds := [], alts := [], laidByText := true, laidKinds := [.data, .data, .data, .sentinel, .sentinel], laidTests := true, laidLooks := .later }
def FnExactReadFractionUptoCardSaid : Prop := Claim7.holds Tryd.pinned (.plain (OpenSpec.upto fnExactReadFractionSpec)) fnExactReadFractionUptoCard

/-- THE SECOND FORM's CARD OF 'laws.FnFields'. -/
def fnFieldsUptoCard : Claim7 := { stood := { row := fnFieldsUptoRow, standIns := [], harness := (true, "985f4529ba0fc1447bc5b60ae2f689c98430abdd63daa255f3841b5ef98c45ab"), looks := true }, kinds := [], alts := [], laidByText := true, laidKinds := [.data, .data, .data, .sentinel, .sentinel], laidTests := true, laidLooks := .later }
def FnFieldsUptoCardSaid : Prop := Claim7.holds Tryd.pinned (.plain (OpenSpec.upto fnFieldsSpec)) fnFieldsUptoCard

/-- THE SECOND FORM's CARD OF 'laws.FnExactReadSigned'. -/
def fnExactReadSignedUptoCard : Claim7 := { stood := { row := fnExactReadSignedUptoRow, standIns := [], harness := (true, "985f4529ba0fc1447bc5b60ae2f689c98430abdd63daa255f3841b5ef98c45ab"), looks := true }, kinds := [], alts := [], laidByText := true, laidKinds := [.data, .data, .data, .data, .sentinel, .sentinel, .pinned], laidTests := true, laidLooks := .later }
def FnExactReadSignedUptoCardSaid : Prop := Claim7.holds Tryd.pinned (.plain (OpenSpec.upto fnExactReadSignedSpec)) fnExactReadSignedUptoCard
end Rows
end Go.Proofs.YtnikogholldcmaaDoor

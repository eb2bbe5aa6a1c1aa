/-
  DERIVED. GIVEN WITH THE SEED: THE CARDS: each row of YtplkkmmojanclaaDoorRows.lean that lists a variable, with what it lists TIED to the program's text (the seventh form; the later family's looks); each row that meets fmt, with fmt's text TOLD by the authors' own Lean function (tested against real Go, not proved from fmt's source: count such statements apart). THE CARD IS WHAT COUNTS. Prove the row's statement (the work); the ties are given (YtplkkmmojanclaaDoorTie.lean); close each card by the builder's one call (the guide's Derived/Test/ToyasCard.lean, 'card_holds'). Laid BY PROGRAM, IN A SANDBOX (cutbox-door.mjs). By AI agents, Wed Nov 11 2026. No macro, syntax, notation, axiom, sorry.
-/
import Derived.Test.YtplkkmmojanclaaDoorRows
import GoSem.ClaimSeven
namespace Go.Proofs.YtplkkmmojanclaaDoor
namespace Rows

/-- THE TIED CARD OF 'tapestrierlaw7.ValueWide'. -/
def valueWideCard : Claim7 := { stood := { row := valueWideRow, standIns := [], harness := (true, "622feb4dc66a772db7d56c92f1a57d07dc33d26dea80901cebd3a594206bfb6d"), looks := true }, kinds := [], alts := [], laidByText := true, laidKinds := [.data, .data, .data, .sentinel, .sentinel], laidTests := true, laidLooks := .later }
def ValueWideCardSaid : Prop := Claim7.holds Tryd.pinned (.plain (OpenSpec.ofChange valueWideSpec)) valueWideCard

/-- THE TIED CARD OF 'tapestrierlaw4.TokNames'. -/
def tokNamesCard : Claim7 := { stood := { row := tokNamesRow, standIns := [], harness := (true, "622feb4dc66a772db7d56c92f1a57d07dc33d26dea80901cebd3a594206bfb6d"), looks := true }, kinds := [], alts := [], laidByText := true, laidKinds := [.data, .pinned], laidTests := true, laidLooks := .later }
def TokNamesCardSaid : Prop := Claim7.holds Tryd.pinned (.plain (OpenSpec.ofChange tokNamesSpec)) tokNamesCard

/-- THE TIED CARD OF 'tapestrierlaw4.TokStrings'. -/
def tokStringsCard : Claim7 := { stood := { row := tokStringsRow, standIns := [], harness := (true, "622feb4dc66a772db7d56c92f1a57d07dc33d26dea80901cebd3a594206bfb6d"), looks := true }, kinds := [], alts := [], laidByText := true, laidKinds := [.data, .pinned], laidTests := true, laidLooks := .later }
def TokStringsCardSaid : Prop := Claim7.holds Tryd.pinned (.plain (OpenSpec.ofChange tokStringsSpec)) tokStringsCard

/-- THE TIED CARD OF 'tapestrierlaw4.TokNumbers'. -/
def tokNumbersCard : Claim7 := { stood := { row := tokNumbersRow, standIns := [], harness := (true, "622feb4dc66a772db7d56c92f1a57d07dc33d26dea80901cebd3a594206bfb6d"), looks := true }, kinds := [], alts := [], laidByText := true, laidKinds := [.data, .pinned], laidTests := true, laidLooks := .later }
def TokNumbersCardSaid : Prop := Claim7.holds Tryd.pinned (.plain (OpenSpec.ofChange tokNumbersSpec)) tokNumbersCard

/-- THE TIED CARD OF 'tapestrierlaw4.TokComments'. -/
def tokCommentsCard : Claim7 := { stood := { row := tokCommentsRow, standIns := [], harness := (true, "622feb4dc66a772db7d56c92f1a57d07dc33d26dea80901cebd3a594206bfb6d"), looks := true }, kinds := [], alts := [], laidByText := true, laidKinds := [.data, .pinned], laidTests := true, laidLooks := .later }
def TokCommentsCardSaid : Prop := Claim7.holds Tryd.pinned (.plain (OpenSpec.ofChange tokCommentsSpec)) tokCommentsCard

/-- THE TIED CARD OF 'tapestrierlaw4.TokEscapes'. -/
def tokEscapesCard : Claim7 := { stood := { row := tokEscapesRow, standIns := [], harness := (true, "622feb4dc66a772db7d56c92f1a57d07dc33d26dea80901cebd3a594206bfb6d"), looks := true }, kinds := [], alts := [], laidByText := true, laidKinds := [.data, .pinned], laidTests := true, laidLooks := .later }
def TokEscapesCardSaid : Prop := Claim7.holds Tryd.pinned (.plain (OpenSpec.ofChange tokEscapesSpec)) tokEscapesCard

/-- THE TIED CARD OF 'tapestrierlaw4.TokSigns'. -/
def tokSignsCard : Claim7 := { stood := { row := tokSignsRow, standIns := [], harness := (true, "622feb4dc66a772db7d56c92f1a57d07dc33d26dea80901cebd3a594206bfb6d"), looks := true }, kinds := [], alts := [], laidByText := true, laidKinds := [.data, .pinned], laidTests := true, laidLooks := .later }
def TokSignsCardSaid : Prop := Claim7.holds Tryd.pinned (.plain (OpenSpec.ofChange tokSignsSpec)) tokSignsCard

/-- THE TIED CARD OF 'tapestrierlaw4.TokParts'. -/
def tokPartsCard : Claim7 := { stood := { row := tokPartsRow, standIns := [], harness := (true, "622feb4dc66a772db7d56c92f1a57d07dc33d26dea80901cebd3a594206bfb6d"), looks := true }, kinds := [], alts := [], laidByText := true, laidKinds := [.data, .pinned], laidTests := true, laidLooks := .later }
def TokPartsCardSaid : Prop := Claim7.holds Tryd.pinned (.plain (OpenSpec.ofChange tokPartsSpec)) tokPartsCard

/-- THE TIED CARD OF 'tapestrierlaw4.TokWhite'. -/
def tokWhiteCard : Claim7 := { stood := { row := tokWhiteRow, standIns := [], harness := (true, "622feb4dc66a772db7d56c92f1a57d07dc33d26dea80901cebd3a594206bfb6d"), looks := true }, kinds := [], alts := [], laidByText := true, laidKinds := [.data, .pinned], laidTests := true, laidLooks := .later }
def TokWhiteCardSaid : Prop := Claim7.holds Tryd.pinned (.plain (OpenSpec.ofChange tokWhiteSpec)) tokWhiteCard

/-- THE TIED CARD OF 'tapestrierlaw4.TokReads'. -/
def tokReadsCard : Claim7 := { stood := { row := tokReadsRow, standIns := [], harness := (true, "622feb4dc66a772db7d56c92f1a57d07dc33d26dea80901cebd3a594206bfb6d"), looks := true }, kinds := [], alts := [], laidByText := true, laidKinds := [.data, .data, .data, .data, .pinned], laidTests := true, laidLooks := .later }
def TokReadsCardSaid : Prop := Claim7.holds Tryd.pinned (.plain (OpenSpec.ofChange tokReadsSpec)) tokReadsCard

/-- THE TIED CARD OF 'tapestrierlaw4.TokPoints'. -/
def tokPointsCard : Claim7 := { stood := { row := tokPointsRow, standIns := [], harness := (true, "622feb4dc66a772db7d56c92f1a57d07dc33d26dea80901cebd3a594206bfb6d"), looks := true }, kinds := [], alts := [], laidByText := true, laidKinds := [.data, .data, .data, .data, .pinned], laidTests := true, laidLooks := .later }
def TokPointsCardSaid : Prop := Claim7.holds Tryd.pinned (.plain (OpenSpec.ofChange tokPointsSpec)) tokPointsCard

/-- THE TIED CARD OF 'tapestrierlaw4.TokKinds'. -/
def tokKindsCard : Claim7 := { stood := { row := tokKindsRow, standIns := [], harness := (true, "622feb4dc66a772db7d56c92f1a57d07dc33d26dea80901cebd3a594206bfb6d"), looks := true }, kinds := [], alts := [], laidByText := true, laidKinds := [.data, .data, .data, .data, .pinned], laidTests := true, laidLooks := .later }
def TokKindsCardSaid : Prop := Claim7.holds Tryd.pinned (.plain (OpenSpec.ofChange tokKindsSpec)) tokKindsCard

/-- THE SECOND FORM's CARD OF 'tapestrierlaw7.ValueWide'. -/
def valueWideUptoCard : Claim7 := { stood := { row := valueWideUptoRow, standIns := [], harness := (true, "622feb4dc66a772db7d56c92f1a57d07dc33d26dea80901cebd3a594206bfb6d"), looks := true }, kinds := [], alts := [], laidByText := true, laidKinds := [.data, .data, .data, .sentinel, .sentinel], laidTests := true, laidLooks := .later }
def ValueWideUptoCardSaid : Prop := Claim7.holds Tryd.pinned (.plain (OpenSpec.upto valueWideSpec)) valueWideUptoCard

/-- THE SECOND FORM's CARD OF 'tapestrierlaw4.TokNames'. -/
def tokNamesUptoCard : Claim7 := { stood := { row := tokNamesUptoRow, standIns := [], harness := (true, "622feb4dc66a772db7d56c92f1a57d07dc33d26dea80901cebd3a594206bfb6d"), looks := true }, kinds := [], alts := [], laidByText := true, laidKinds := [.data, .pinned], laidTests := true, laidLooks := .later }
def TokNamesUptoCardSaid : Prop := Claim7.holds Tryd.pinned (.plain (OpenSpec.upto tokNamesSpec)) tokNamesUptoCard

/-- THE SECOND FORM's CARD OF 'tapestrierlaw4.TokStrings'. -/
def tokStringsUptoCard : Claim7 := { stood := { row := tokStringsUptoRow, standIns := [], harness := (true, "622feb4dc66a772db7d56c92f1a57d07dc33d26dea80901cebd3a594206bfb6d"), looks := true }, kinds := [], alts := [], laidByText := true, laidKinds := [.data, .pinned], laidTests := true, laidLooks := .later }
def TokStringsUptoCardSaid : Prop := Claim7.holds Tryd.pinned (.plain (OpenSpec.upto tokStringsSpec)) tokStringsUptoCard

/-- THE SECOND FORM's CARD OF 'tapestrierlaw4.TokNumbers'. -/
def tokNumbersUptoCard : Claim7 := { stood := { row := tokNumbersUptoRow, standIns := [], harness := (true, "622feb4dc66a772db7d56c92f1a57d07dc33d26dea80901cebd3a594206bfb6d"), looks := true }, kinds := [], alts := [], laidByText := true, laidKinds := [.data, .pinned], laidTests := true, laidLooks := .later }
def TokNumbersUptoCardSaid : Prop := Claim7.holds Tryd.pinned (.plain (OpenSpec.upto tokNumbersSpec)) tokNumbersUptoCard

/-- THE SECOND FORM's CARD OF 'tapestrierlaw4.TokComments'. -/
def tokCommentsUptoCard : Claim7 := { stood := { row := tokCommentsUptoRow, standIns := [], harness := (true, "622feb4dc66a772db7d56c92f1a57d07dc33d26dea80901cebd3a594206bfb6d"), looks := true }, kinds := [], alts := [], laidByText := true, laidKinds := [.data, .pinned], laidTests := true, laidLooks := .later }
def TokCommentsUptoCardSaid : Prop := Claim7.holds Tryd.pinned (.plain (OpenSpec.upto tokCommentsSpec)) tokCommentsUptoCard

/-- THE SECOND FORM's CARD OF 'tapestrierlaw4.TokEscapes'. -/
def tokEscapesUptoCard : Claim7 := { stood := { row := tokEscapesUptoRow, standIns := [], harness := (true, "622feb4dc66a772db7d56c92f1a57d07dc33d26dea80901cebd3a594206bfb6d"), looks := true }, kinds := [], alts := [], laidByText := true, laidKinds := [.data, .pinned], laidTests := true, laidLooks := .later }
def TokEscapesUptoCardSaid : Prop := Claim7.holds Tryd.pinned (.plain (OpenSpec.upto tokEscapesSpec)) tokEscapesUptoCard

/-- THE SECOND FORM's CARD OF 'tapestrierlaw4.TokSigns'. -/
def tokSignsUptoCard : Claim7 := { stood := { row := tokSignsUptoRow, standIns := [], harness := (true, "622feb4dc66a772db7d56c92f1a57d07dc33d26dea80901cebd3a594206bfb6d"), looks := true }, kinds := [], alts := [], laidByText := true, laidKinds := [.data, .pinned], laidTests := true, laidLooks := .later }
def TokSignsUptoCardSaid : Prop := Claim7.holds Tryd.pinned (.plain (OpenSpec.upto tokSignsSpec)) tokSignsUptoCard

/-- THE SECOND FORM's CARD OF 'tapestrierlaw4.TokParts'. -/
def tokPartsUptoCard : Claim7 := { stood := { row := tokPartsUptoRow, standIns := [], harness := (true, "622feb4dc66a772db7d56c92f1a57d07dc33d26dea80901cebd3a594206bfb6d"), looks := true }, kinds := [], alts := [], laidByText := true, laidKinds := [.data, .pinned], laidTests := true, laidLooks := .later }
def TokPartsUptoCardSaid : Prop := Claim7.holds Tryd.pinned (.plain (OpenSpec.upto tokPartsSpec)) tokPartsUptoCard

/-- THE SECOND FORM's CARD OF 'tapestrierlaw4.TokWhite'. -/
def tokWhiteUptoCard : Claim7 := { stood := { row := tokWhiteUptoRow, standIns := [], harness := (true, "622feb4dc66a772db7d56c92f1a57d07dc33d26dea80901cebd3a594206bfb6d"), looks := true }, kinds := [], alts := [], laidByText := true, laidKinds := [.data, .pinned], laidTests := true, laidLooks := .later }
def TokWhiteUptoCardSaid : Prop := Claim7.holds Tryd.pinned (.plain (OpenSpec.upto tokWhiteSpec)) tokWhiteUptoCard

/-- THE SECOND FORM's CARD OF 'tapestrierlaw4.TokReads'. -/
def tokReadsUptoCard : Claim7 := { stood := { row := tokReadsUptoRow, standIns := [], harness := (true, "622feb4dc66a772db7d56c92f1a57d07dc33d26dea80901cebd3a594206bfb6d"), looks := true }, kinds := [], alts := [], laidByText := true, laidKinds := [.data, .data, .data, .data, .pinned], laidTests := true, laidLooks := .later }
def TokReadsUptoCardSaid : Prop := Claim7.holds Tryd.pinned (.plain (OpenSpec.upto tokReadsSpec)) tokReadsUptoCard

/-- THE SECOND FORM's CARD OF 'tapestrierlaw4.TokPoints'. -/
def tokPointsUptoCard : Claim7 := { stood := { row := tokPointsUptoRow, standIns := [], harness := (true, "622feb4dc66a772db7d56c92f1a57d07dc33d26dea80901cebd3a594206bfb6d"), looks := true }, kinds := [], alts := [], laidByText := true, laidKinds := [.data, .data, .data, .data, .pinned], laidTests := true, laidLooks := .later }
def TokPointsUptoCardSaid : Prop := Claim7.holds Tryd.pinned (.plain (OpenSpec.upto tokPointsSpec)) tokPointsUptoCard

/-- THE SECOND FORM's CARD OF 'tapestrierlaw4.TokKinds'. -/
def tokKindsUptoCard : Claim7 := { stood := { row := tokKindsUptoRow, standIns := [], harness := (true, "622feb4dc66a772db7d56c92f1a57d07dc33d26dea80901cebd3a594206bfb6d"), looks := true }, kinds := [], alts := [], laidByText := true, laidKinds := [.data, .data, .data, .data, .pinned], laidTests := true, laidLooks := .later }
def TokKindsUptoCardSaid : Prop := Claim7.holds Tryd.pinned (.plain (OpenSpec.upto tokKindsSpec)) tokKindsUptoCard
end Rows
end Go.Proofs.YtplkkmmojanclaaDoor

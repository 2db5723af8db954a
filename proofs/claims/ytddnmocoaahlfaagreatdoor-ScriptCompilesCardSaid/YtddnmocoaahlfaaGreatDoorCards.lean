/-
  DERIVED. GIVEN WITH THE SEED: THE CARDS: each row of YtddnmocoaahlfaaGreatDoorRows.lean that lists a variable, with what it lists TIED to the program's text (the seventh form; the later family's looks); each row that meets fmt, with fmt's text TOLD by the authors' own Lean function (tested against real Go, not proved from fmt's source: count such statements apart). THE CARD IS WHAT COUNTS. Prove the row's statement (the work); the ties are given (YtddnmocoaahlfaaGreatDoorTie.lean); close each card by the builder's one call (the guide's Derived/Test/ToyasCard.lean, 'card_holds'). Laid BY PROGRAM, IN A SANDBOX (cutbox-door.mjs). By AI agents, Wed Nov 11 2026. No macro, syntax, notation, axiom, sorry.
-/
import Derived.Test.YtddnmocoaahlfaaGreatDoorRows
import GoSem.ClaimSeven
namespace Go.Proofs.YtddnmocoaahlfaaGreatDoor
namespace Rows

/-- THE TIED CARD OF 'guillochelaw10.ScriptBack'. -/
def scriptBackCard : Claim7 := { stood := { row := scriptBackRow, standIns := [], harness := (true, "14d303dac07ebf1f7eb830dc8d4e490dfd26eabe3c4d58be7c64f9b7e973ec20"), looks := true }, kinds := [], alts := [], laidByText := true, laidKinds := [.data, .data, .data, .data, .sentinel, .sentinel, .widerDeep, .widerDeep, .pinned], laidTests := true, laidLooks := .later }
def ScriptBackCardSaid : Prop := Claim7.holds Tryz.pinned (.plain (OpenSpec.ofChange scriptBackSpec)) scriptBackCard

/-- THE TIED CARD OF 'guillochelaw10.ScriptOnly'. -/
def scriptOnlyCard : Claim7 := { stood := { row := scriptOnlyRow, standIns := [], harness := (true, "14d303dac07ebf1f7eb830dc8d4e490dfd26eabe3c4d58be7c64f9b7e973ec20"), looks := true }, kinds := [], alts := [], laidByText := true, laidKinds := [.data, .data, .data, .data, .sentinel, .sentinel, .widerDeep, .widerDeep, .pinned], laidTests := true, laidLooks := .later }
def ScriptOnlyCardSaid : Prop := Claim7.holds Tryz.pinned (.plain (OpenSpec.ofChange scriptOnlySpec)) scriptOnlyCard

/-- THE TIED CARD OF 'guillochelaw10.ScriptTexts'. -/
def scriptTextsCard : Claim7 := { stood := { row := scriptTextsRow, standIns := [], harness := (true, "14d303dac07ebf1f7eb830dc8d4e490dfd26eabe3c4d58be7c64f9b7e973ec20"), looks := true }, kinds := [], alts := [], laidByText := true, laidKinds := [.data, .data, .data, .data, .sentinel, .sentinel, .widerDeep, .pinned], laidTests := true, laidLooks := .later }
def ScriptTextsCardSaid : Prop := Claim7.holds Tryz.pinned (.plain (OpenSpec.ofChange scriptTextsSpec)) scriptTextsCard

/-- THE TIED CARD OF 'guillochelaw10.ScriptCompiles'. -/
def scriptCompilesCard : Claim7 := { stood := { row := scriptCompilesRow, standIns := [], harness := (true, "14d303dac07ebf1f7eb830dc8d4e490dfd26eabe3c4d58be7c64f9b7e973ec20"), looks := true }, kinds := [], alts := [], laidByText := true, laidKinds := [.data, .data, .data, .data, .sentinel, .sentinel, .widerDeep, .pinned], laidTests := true, laidLooks := .later }
def ScriptCompilesCardSaid : Prop := Claim7.holds Tryz.pinned (.plain (OpenSpec.ofChange scriptCompilesSpec)) scriptCompilesCard

/-- THE TIED CARD OF 'guillochelaw10.ScriptCompiled'. -/
def scriptCompiledCard : Claim7 := { stood := { row := scriptCompiledRow, standIns := [], harness := (true, "14d303dac07ebf1f7eb830dc8d4e490dfd26eabe3c4d58be7c64f9b7e973ec20"), looks := true }, kinds := [], alts := [], laidByText := true, laidKinds := [.data, .data, .data, .data, .sentinel, .sentinel, .widerDeep, .pinned], laidTests := true, laidLooks := .later }
def ScriptCompiledCardSaid : Prop := Claim7.holds Tryz.pinned (.plain (OpenSpec.ofChange scriptCompiledSpec)) scriptCompiledCard

/-- THE TIED CARD OF 'guillochelaw10.ScriptUnrolled'. -/
def scriptUnrolledCard : Claim7 := { stood := { row := scriptUnrolledRow, standIns := [], harness := (true, "14d303dac07ebf1f7eb830dc8d4e490dfd26eabe3c4d58be7c64f9b7e973ec20"), looks := true }, kinds := [], alts := [], laidByText := true, laidKinds := [.data, .data, .data, .data, .sentinel, .sentinel, .widerDeep, .pinned], laidTests := true, laidLooks := .later }
def ScriptUnrolledCardSaid : Prop := Claim7.holds Tryz.pinned (.plain (OpenSpec.ofChange scriptUnrolledSpec)) scriptUnrolledCard

/-- THE TIED CARD OF 'guillochelaw10.ScriptSpaced'. -/
def scriptSpacedCard : Claim7 := { stood := { row := scriptSpacedRow, standIns := [], harness := (true, "14d303dac07ebf1f7eb830dc8d4e490dfd26eabe3c4d58be7c64f9b7e973ec20"), looks := true }, kinds := [], alts := [], laidByText := true, laidKinds := [.data, .data, .data, .data, .sentinel, .sentinel, .widerDeep, .pinned], laidTests := true, laidLooks := .later }
def ScriptSpacedCardSaid : Prop := Claim7.holds Tryz.pinned (.plain (OpenSpec.ofChange scriptSpacedSpec)) scriptSpacedCard

/-- THE TIED CARD OF 'guillochelaw10.ScriptEvals'. -/
def scriptEvalsCard : Claim7 := { stood := { row := scriptEvalsRow, standIns := [], harness := (true, "14d303dac07ebf1f7eb830dc8d4e490dfd26eabe3c4d58be7c64f9b7e973ec20"), looks := true }, kinds := [], alts := [], laidByText := true, laidKinds := [.data, .data, .data, .data, .sentinel, .sentinel, .widerDeep, .pinned], laidTests := true, laidLooks := .later }
def ScriptEvalsCardSaid : Prop := Claim7.holds Tryz.pinned (.plain (OpenSpec.ofChange scriptEvalsSpec)) scriptEvalsCard

/-- THE TIED CARD OF 'guillochelaw10.ScriptChoices'. -/
def scriptChoicesCard : Claim7 := { stood := { row := scriptChoicesRow, standIns := [], harness := (true, "14d303dac07ebf1f7eb830dc8d4e490dfd26eabe3c4d58be7c64f9b7e973ec20"), looks := true }, kinds := [], alts := [], laidByText := true, laidKinds := [.data, .data, .data, .data, .sentinel, .sentinel, .widerDeep, .pinned], laidTests := true, laidLooks := .later }
def ScriptChoicesCardSaid : Prop := Claim7.holds Tryz.pinned (.plain (OpenSpec.ofChange scriptChoicesSpec)) scriptChoicesCard

/-- THE TIED CARD OF 'guillochelaw10.ScriptValues'. -/
def scriptValuesCard : Claim7 := { stood := { row := scriptValuesRow, standIns := [], harness := (true, "14d303dac07ebf1f7eb830dc8d4e490dfd26eabe3c4d58be7c64f9b7e973ec20"), looks := true }, kinds := [], alts := [], laidByText := true, laidKinds := [.data, .data, .data, .data, .sentinel, .sentinel, .widerDeep, .pinned], laidTests := true, laidLooks := .later }
def ScriptValuesCardSaid : Prop := Claim7.holds Tryz.pinned (.plain (OpenSpec.ofChange scriptValuesSpec)) scriptValuesCard

/-- THE TIED CARD OF 'guillochelaw10.ScriptParses'. -/
def scriptParsesCard : Claim7 := { stood := { row := scriptParsesRow, standIns := [], harness := (true, "14d303dac07ebf1f7eb830dc8d4e490dfd26eabe3c4d58be7c64f9b7e973ec20"), looks := true }, kinds := [], alts := [], laidByText := true, laidKinds := [.data, .data, .data, .data, .sentinel, .sentinel, .widerDeep, .pinned], laidTests := true, laidLooks := .later }
def ScriptParsesCardSaid : Prop := Claim7.holds Tryz.pinned (.plain (OpenSpec.ofChange scriptParsesSpec)) scriptParsesCard

/-- THE TIED CARD OF 'guillochelaw10.ScriptEvents'. -/
def scriptEventsCard : Claim7 := { stood := { row := scriptEventsRow, standIns := [], harness := (true, "14d303dac07ebf1f7eb830dc8d4e490dfd26eabe3c4d58be7c64f9b7e973ec20"), looks := true }, kinds := [], alts := [], laidByText := true, laidKinds := [.data, .data, .data, .data, .sentinel, .sentinel, .widerDeep, .widerDeep, .pinned], laidTests := true, laidLooks := .later }
def ScriptEventsCardSaid : Prop := Claim7.holds Tryz.pinned (.plain (OpenSpec.ofChange scriptEventsSpec)) scriptEventsCard

/-- THE TIED CARD OF 'guillochelaw10.ScriptPlants'. -/
def scriptPlantsCard : Claim7 := { stood := { row := scriptPlantsRow, standIns := [], harness := (true, "14d303dac07ebf1f7eb830dc8d4e490dfd26eabe3c4d58be7c64f9b7e973ec20"), looks := true }, kinds := [], alts := [], laidByText := true, laidKinds := [.data, .data, .data, .data, .sentinel, .sentinel, .widerDeep, .pinned], laidTests := true, laidLooks := .later }
def ScriptPlantsCardSaid : Prop := Claim7.holds Tryz.pinned (.plain (OpenSpec.ofChange scriptPlantsSpec)) scriptPlantsCard

/-- THE TIED CARD OF 'guillochelaw10.ScriptReports'. -/
def scriptReportsCard : Claim7 := { stood := { row := scriptReportsRow, standIns := [], harness := (true, "14d303dac07ebf1f7eb830dc8d4e490dfd26eabe3c4d58be7c64f9b7e973ec20"), looks := true }, kinds := [], alts := [], laidByText := true, laidKinds := [.data, .data, .data, .data, .sentinel, .sentinel, .widerDeep, .widerDeep, .pinned], laidTests := true, laidLooks := .later }
def ScriptReportsCardSaid : Prop := Claim7.holds Tryz.pinned (.plain (OpenSpec.ofChange scriptReportsSpec)) scriptReportsCard

/-- THE TIED CARD OF 'guillochelaw10.ScriptPlantTexts'. -/
def scriptPlantTextsCard : Claim7 := { stood := { row := scriptPlantTextsRow, standIns := [], harness := (true, "14d303dac07ebf1f7eb830dc8d4e490dfd26eabe3c4d58be7c64f9b7e973ec20"), looks := true }, kinds := [], alts := [], laidByText := true, laidKinds := [.data, .data, .data, .data, .sentinel, .sentinel, .widerDeep, .pinned], laidTests := true, laidLooks := .later }
def ScriptPlantTextsCardSaid : Prop := Claim7.holds Tryz.pinned (.plain (OpenSpec.ofChange scriptPlantTextsSpec)) scriptPlantTextsCard

/-- THE SECOND FORM's CARD OF 'guillochelaw10.ScriptBack'. -/
def scriptBackUptoCard : Claim7 := { stood := { row := scriptBackUptoRow, standIns := [], harness := (true, "14d303dac07ebf1f7eb830dc8d4e490dfd26eabe3c4d58be7c64f9b7e973ec20"), looks := true }, kinds := [], alts := [], laidByText := true, laidKinds := [.data, .data, .data, .data, .sentinel, .sentinel, .widerDeep, .widerDeep, .pinned], laidTests := true, laidLooks := .later }
def ScriptBackUptoCardSaid : Prop := Claim7.holds Tryz.pinned (.plain (OpenSpec.upto scriptBackSpec)) scriptBackUptoCard

/-- THE SECOND FORM's CARD OF 'guillochelaw10.ScriptOnly'. -/
def scriptOnlyUptoCard : Claim7 := { stood := { row := scriptOnlyUptoRow, standIns := [], harness := (true, "14d303dac07ebf1f7eb830dc8d4e490dfd26eabe3c4d58be7c64f9b7e973ec20"), looks := true }, kinds := [], alts := [], laidByText := true, laidKinds := [.data, .data, .data, .data, .sentinel, .sentinel, .widerDeep, .widerDeep, .pinned], laidTests := true, laidLooks := .later }
def ScriptOnlyUptoCardSaid : Prop := Claim7.holds Tryz.pinned (.plain (OpenSpec.upto scriptOnlySpec)) scriptOnlyUptoCard

/-- THE SECOND FORM's CARD OF 'guillochelaw10.ScriptTexts'. -/
def scriptTextsUptoCard : Claim7 := { stood := { row := scriptTextsUptoRow, standIns := [], harness := (true, "14d303dac07ebf1f7eb830dc8d4e490dfd26eabe3c4d58be7c64f9b7e973ec20"), looks := true }, kinds := [], alts := [], laidByText := true, laidKinds := [.data, .data, .data, .data, .sentinel, .sentinel, .widerDeep, .pinned], laidTests := true, laidLooks := .later }
def ScriptTextsUptoCardSaid : Prop := Claim7.holds Tryz.pinned (.plain (OpenSpec.upto scriptTextsSpec)) scriptTextsUptoCard

/-- THE SECOND FORM's CARD OF 'guillochelaw10.ScriptCompiles'. -/
def scriptCompilesUptoCard : Claim7 := { stood := { row := scriptCompilesUptoRow, standIns := [], harness := (true, "14d303dac07ebf1f7eb830dc8d4e490dfd26eabe3c4d58be7c64f9b7e973ec20"), looks := true }, kinds := [], alts := [], laidByText := true, laidKinds := [.data, .data, .data, .data, .sentinel, .sentinel, .widerDeep, .pinned], laidTests := true, laidLooks := .later }
def ScriptCompilesUptoCardSaid : Prop := Claim7.holds Tryz.pinned (.plain (OpenSpec.upto scriptCompilesSpec)) scriptCompilesUptoCard

/-- THE SECOND FORM's CARD OF 'guillochelaw10.ScriptCompiled'. -/
def scriptCompiledUptoCard : Claim7 := { stood := { row := scriptCompiledUptoRow, standIns := [], harness := (true, "14d303dac07ebf1f7eb830dc8d4e490dfd26eabe3c4d58be7c64f9b7e973ec20"), looks := true }, kinds := [], alts := [], laidByText := true, laidKinds := [.data, .data, .data, .data, .sentinel, .sentinel, .widerDeep, .pinned], laidTests := true, laidLooks := .later }
def ScriptCompiledUptoCardSaid : Prop := Claim7.holds Tryz.pinned (.plain (OpenSpec.upto scriptCompiledSpec)) scriptCompiledUptoCard

/-- THE SECOND FORM's CARD OF 'guillochelaw10.ScriptUnrolled'. -/
def scriptUnrolledUptoCard : Claim7 := { stood := { row := scriptUnrolledUptoRow, standIns := [], harness := (true, "14d303dac07ebf1f7eb830dc8d4e490dfd26eabe3c4d58be7c64f9b7e973ec20"), looks := true }, kinds := [], alts := [], laidByText := true, laidKinds := [.data, .data, .data, .data, .sentinel, .sentinel, .widerDeep, .pinned], laidTests := true, laidLooks := .later }
def ScriptUnrolledUptoCardSaid : Prop := Claim7.holds Tryz.pinned (.plain (OpenSpec.upto scriptUnrolledSpec)) scriptUnrolledUptoCard

/-- THE SECOND FORM's CARD OF 'guillochelaw10.ScriptSpaced'. -/
def scriptSpacedUptoCard : Claim7 := { stood := { row := scriptSpacedUptoRow, standIns := [], harness := (true, "14d303dac07ebf1f7eb830dc8d4e490dfd26eabe3c4d58be7c64f9b7e973ec20"), looks := true }, kinds := [], alts := [], laidByText := true, laidKinds := [.data, .data, .data, .data, .sentinel, .sentinel, .widerDeep, .pinned], laidTests := true, laidLooks := .later }
def ScriptSpacedUptoCardSaid : Prop := Claim7.holds Tryz.pinned (.plain (OpenSpec.upto scriptSpacedSpec)) scriptSpacedUptoCard

/-- THE SECOND FORM's CARD OF 'guillochelaw10.ScriptEvals'. -/
def scriptEvalsUptoCard : Claim7 := { stood := { row := scriptEvalsUptoRow, standIns := [], harness := (true, "14d303dac07ebf1f7eb830dc8d4e490dfd26eabe3c4d58be7c64f9b7e973ec20"), looks := true }, kinds := [], alts := [], laidByText := true, laidKinds := [.data, .data, .data, .data, .sentinel, .sentinel, .widerDeep, .pinned], laidTests := true, laidLooks := .later }
def ScriptEvalsUptoCardSaid : Prop := Claim7.holds Tryz.pinned (.plain (OpenSpec.upto scriptEvalsSpec)) scriptEvalsUptoCard

/-- THE SECOND FORM's CARD OF 'guillochelaw10.ScriptChoices'. -/
def scriptChoicesUptoCard : Claim7 := { stood := { row := scriptChoicesUptoRow, standIns := [], harness := (true, "14d303dac07ebf1f7eb830dc8d4e490dfd26eabe3c4d58be7c64f9b7e973ec20"), looks := true }, kinds := [], alts := [], laidByText := true, laidKinds := [.data, .data, .data, .data, .sentinel, .sentinel, .widerDeep, .pinned], laidTests := true, laidLooks := .later }
def ScriptChoicesUptoCardSaid : Prop := Claim7.holds Tryz.pinned (.plain (OpenSpec.upto scriptChoicesSpec)) scriptChoicesUptoCard

/-- THE SECOND FORM's CARD OF 'guillochelaw10.ScriptValues'. -/
def scriptValuesUptoCard : Claim7 := { stood := { row := scriptValuesUptoRow, standIns := [], harness := (true, "14d303dac07ebf1f7eb830dc8d4e490dfd26eabe3c4d58be7c64f9b7e973ec20"), looks := true }, kinds := [], alts := [], laidByText := true, laidKinds := [.data, .data, .data, .data, .sentinel, .sentinel, .widerDeep, .pinned], laidTests := true, laidLooks := .later }
def ScriptValuesUptoCardSaid : Prop := Claim7.holds Tryz.pinned (.plain (OpenSpec.upto scriptValuesSpec)) scriptValuesUptoCard

/-- THE SECOND FORM's CARD OF 'guillochelaw10.ScriptParses'. -/
def scriptParsesUptoCard : Claim7 := { stood := { row := scriptParsesUptoRow, standIns := [], harness := (true, "14d303dac07ebf1f7eb830dc8d4e490dfd26eabe3c4d58be7c64f9b7e973ec20"), looks := true }, kinds := [], alts := [], laidByText := true, laidKinds := [.data, .data, .data, .data, .sentinel, .sentinel, .widerDeep, .pinned], laidTests := true, laidLooks := .later }
def ScriptParsesUptoCardSaid : Prop := Claim7.holds Tryz.pinned (.plain (OpenSpec.upto scriptParsesSpec)) scriptParsesUptoCard

/-- THE SECOND FORM's CARD OF 'guillochelaw10.ScriptEvents'. -/
def scriptEventsUptoCard : Claim7 := { stood := { row := scriptEventsUptoRow, standIns := [], harness := (true, "14d303dac07ebf1f7eb830dc8d4e490dfd26eabe3c4d58be7c64f9b7e973ec20"), looks := true }, kinds := [], alts := [], laidByText := true, laidKinds := [.data, .data, .data, .data, .sentinel, .sentinel, .widerDeep, .widerDeep, .pinned], laidTests := true, laidLooks := .later }
def ScriptEventsUptoCardSaid : Prop := Claim7.holds Tryz.pinned (.plain (OpenSpec.upto scriptEventsSpec)) scriptEventsUptoCard

/-- THE SECOND FORM's CARD OF 'guillochelaw10.ScriptPlants'. -/
def scriptPlantsUptoCard : Claim7 := { stood := { row := scriptPlantsUptoRow, standIns := [], harness := (true, "14d303dac07ebf1f7eb830dc8d4e490dfd26eabe3c4d58be7c64f9b7e973ec20"), looks := true }, kinds := [], alts := [], laidByText := true, laidKinds := [.data, .data, .data, .data, .sentinel, .sentinel, .widerDeep, .pinned], laidTests := true, laidLooks := .later }
def ScriptPlantsUptoCardSaid : Prop := Claim7.holds Tryz.pinned (.plain (OpenSpec.upto scriptPlantsSpec)) scriptPlantsUptoCard

/-- THE SECOND FORM's CARD OF 'guillochelaw10.ScriptReports'. -/
def scriptReportsUptoCard : Claim7 := { stood := { row := scriptReportsUptoRow, standIns := [], harness := (true, "14d303dac07ebf1f7eb830dc8d4e490dfd26eabe3c4d58be7c64f9b7e973ec20"), looks := true }, kinds := [], alts := [], laidByText := true, laidKinds := [.data, .data, .data, .data, .sentinel, .sentinel, .widerDeep, .widerDeep, .pinned], laidTests := true, laidLooks := .later }
def ScriptReportsUptoCardSaid : Prop := Claim7.holds Tryz.pinned (.plain (OpenSpec.upto scriptReportsSpec)) scriptReportsUptoCard

/-- THE SECOND FORM's CARD OF 'guillochelaw10.ScriptPlantTexts'. -/
def scriptPlantTextsUptoCard : Claim7 := { stood := { row := scriptPlantTextsUptoRow, standIns := [], harness := (true, "14d303dac07ebf1f7eb830dc8d4e490dfd26eabe3c4d58be7c64f9b7e973ec20"), looks := true }, kinds := [], alts := [], laidByText := true, laidKinds := [.data, .data, .data, .data, .sentinel, .sentinel, .widerDeep, .pinned], laidTests := true, laidLooks := .later }
def ScriptPlantTextsUptoCardSaid : Prop := Claim7.holds Tryz.pinned (.plain (OpenSpec.upto scriptPlantTextsSpec)) scriptPlantTextsUptoCard
end Rows
end Go.Proofs.YtddnmocoaahlfaaGreatDoor

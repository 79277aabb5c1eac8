/-
  DERIVED. GIVEN WITH THE SEED: THE CARDS: each row of YtlaepkmnbbgbcaaGreatDoorRows.lean that lists a variable, with what it lists TIED to the program's text (the seventh form; the later family's looks); each row that meets fmt, with fmt's text TOLD by the authors' own Lean function (tested against real Go, not proved from fmt's source: count such statements apart). THE CARD IS WHAT COUNTS. Prove the row's statement (the work); the ties are given (YtlaepkmnbbgbcaaGreatDoorTie.lean); close each card by the builder's one call (the guide's Derived/Test/ToyasCard.lean, 'card_holds'). Laid BY PROGRAM, IN A SANDBOX (cutbox-door.mjs). By AI agents, Wed Nov 11 2026. No macro, syntax, notation, axiom, sorry.
-/
import Derived.Test.YtlaepkmnbbgbcaaGreatDoorRows
import GoSem.ClaimSeven
namespace Go.Proofs.YtlaepkmnbbgbcaaGreatDoor
namespace Rows

/-- THE TIED CARD OF 'mjolnerlaw15.CodeStrips'. -/
def codeStripsCard : Claim7 := { stood := { row := codeStripsRow, standIns := [], harness := (true, "93830295d755f97aaf1183429f784ccb6d42a8d9b038ba4cc09e5beb9bc8f476"), looks := true }, kinds := [], alts := [], laidByText := true, laidKinds := [.data, .data, .data, .data, .sentinel, .sentinel, .pinned], laidTests := true, laidLooks := .later }
def CodeStripsCardSaid : Prop := Claim7.holds Tryz.pinned (.plain (OpenSpec.ofChange codeStripsSpec)) codeStripsCard

/-- THE TIED CARD OF 'mjolnerlaw15.CodeStrings'. -/
def codeStringsCard : Claim7 := { stood := { row := codeStringsRow, standIns := [], harness := (true, "93830295d755f97aaf1183429f784ccb6d42a8d9b038ba4cc09e5beb9bc8f476"), looks := true }, kinds := [], alts := [], laidByText := true, laidKinds := [.data, .data, .data, .data, .sentinel, .sentinel, .pinned], laidTests := true, laidLooks := .later }
def CodeStringsCardSaid : Prop := Claim7.holds Tryz.pinned (.plain (OpenSpec.ofChange codeStringsSpec)) codeStringsCard

/-- THE TIED CARD OF 'mjolnerlaw15.CodePrefixes'. -/
def codePrefixesCard : Claim7 := { stood := { row := codePrefixesRow, standIns := [], harness := (true, "93830295d755f97aaf1183429f784ccb6d42a8d9b038ba4cc09e5beb9bc8f476"), looks := true }, kinds := [], alts := [], laidByText := true, laidKinds := [.data, .data, .data, .data, .sentinel, .sentinel, .pinned], laidTests := true, laidLooks := .later }
def CodePrefixesCardSaid : Prop := Claim7.holds Tryz.pinned (.plain (OpenSpec.ofChange codePrefixesSpec)) codePrefixesCard

/-- THE TIED CARD OF 'mjolnerlaw15.CodeChecks'. -/
def codeChecksCard : Claim7 := { stood := { row := codeChecksRow, standIns := [], harness := (true, "93830295d755f97aaf1183429f784ccb6d42a8d9b038ba4cc09e5beb9bc8f476"), looks := true }, kinds := [], alts := [], laidByText := true, laidKinds := [.data, .data, .data, .data, .sentinel, .sentinel, .pinned], laidTests := true, laidLooks := .later }
def CodeChecksCardSaid : Prop := Claim7.holds Tryz.pinned (.plain (OpenSpec.ofChange codeChecksSpec)) codeChecksCard

/-- THE TIED CARD OF 'mjolnerlaw15.CodeNames'. -/
def codeNamesCard : Claim7 := { stood := { row := codeNamesRow, standIns := [], harness := (true, "93830295d755f97aaf1183429f784ccb6d42a8d9b038ba4cc09e5beb9bc8f476"), looks := true }, kinds := [], alts := [], laidByText := true, laidKinds := [.data, .data, .data, .data, .sentinel, .sentinel, .pinned], laidTests := true, laidLooks := .later }
def CodeNamesCardSaid : Prop := Claim7.holds Tryz.pinned (.plain (OpenSpec.ofChange codeNamesSpec)) codeNamesCard

/-- THE TIED CARD OF 'mjolnerlaw15.CodeBack'. -/
def codeBackCard : Claim7 := { stood := { row := codeBackRow, standIns := [], harness := (true, "93830295d755f97aaf1183429f784ccb6d42a8d9b038ba4cc09e5beb9bc8f476"), looks := true }, kinds := [], alts := [], laidByText := true, laidKinds := [.data, .data, .data, .data, .sentinel, .sentinel, .pinned], laidTests := true, laidLooks := .later }
def CodeBackCardSaid : Prop := Claim7.holds Tryz.pinned (.plain (OpenSpec.ofChange codeBackSpec)) codeBackCard

/-- THE TIED CARD OF 'mjolnerlaw15.CodeFlow'. -/
def codeFlowCard : Claim7 := { stood := { row := codeFlowRow, standIns := [], harness := (true, "93830295d755f97aaf1183429f784ccb6d42a8d9b038ba4cc09e5beb9bc8f476"), looks := true }, kinds := [], alts := [], laidByText := true, laidKinds := [.data, .data, .data, .data, .sentinel, .sentinel, .pinned], laidTests := true, laidLooks := .later }
def CodeFlowCardSaid : Prop := Claim7.holds Tryz.pinned (.plain (OpenSpec.ofChange codeFlowSpec)) codeFlowCard

/-- THE TIED CARD OF 'mjolnerlaw15.CodeControl'. -/
def codeControlCard : Claim7 := { stood := { row := codeControlRow, standIns := [], harness := (true, "93830295d755f97aaf1183429f784ccb6d42a8d9b038ba4cc09e5beb9bc8f476"), looks := true }, kinds := [], alts := [], laidByText := true, laidKinds := [.data, .data, .data, .data, .sentinel, .sentinel, .pinned], laidTests := true, laidLooks := .later }
def CodeControlCardSaid : Prop := Claim7.holds Tryz.pinned (.plain (OpenSpec.ofChange codeControlSpec)) codeControlCard

/-- THE TIED CARD OF 'mjolnerlaw15.CodeMarks'. -/
def codeMarksCard : Claim7 := { stood := { row := codeMarksRow, standIns := [], harness := (true, "93830295d755f97aaf1183429f784ccb6d42a8d9b038ba4cc09e5beb9bc8f476"), looks := true }, kinds := [], alts := [], laidByText := true, laidKinds := [.data, .data, .data, .data, .sentinel, .sentinel, .pinned], laidTests := true, laidLooks := .later }
def CodeMarksCardSaid : Prop := Claim7.holds Tryz.pinned (.plain (OpenSpec.ofChange codeMarksSpec)) codeMarksCard

/-- THE SECOND FORM's CARD OF 'mjolnerlaw15.CodeStrips'. -/
def codeStripsUptoCard : Claim7 := { stood := { row := codeStripsUptoRow, standIns := [], harness := (true, "93830295d755f97aaf1183429f784ccb6d42a8d9b038ba4cc09e5beb9bc8f476"), looks := true }, kinds := [], alts := [], laidByText := true, laidKinds := [.data, .data, .data, .data, .sentinel, .sentinel, .pinned], laidTests := true, laidLooks := .later }
def CodeStripsUptoCardSaid : Prop := Claim7.holds Tryz.pinned (.plain (OpenSpec.upto codeStripsSpec)) codeStripsUptoCard

/-- THE SECOND FORM's CARD OF 'mjolnerlaw15.CodeStrings'. -/
def codeStringsUptoCard : Claim7 := { stood := { row := codeStringsUptoRow, standIns := [], harness := (true, "93830295d755f97aaf1183429f784ccb6d42a8d9b038ba4cc09e5beb9bc8f476"), looks := true }, kinds := [], alts := [], laidByText := true, laidKinds := [.data, .data, .data, .data, .sentinel, .sentinel, .pinned], laidTests := true, laidLooks := .later }
def CodeStringsUptoCardSaid : Prop := Claim7.holds Tryz.pinned (.plain (OpenSpec.upto codeStringsSpec)) codeStringsUptoCard

/-- THE SECOND FORM's CARD OF 'mjolnerlaw15.CodePrefixes'. -/
def codePrefixesUptoCard : Claim7 := { stood := { row := codePrefixesUptoRow, standIns := [], harness := (true, "93830295d755f97aaf1183429f784ccb6d42a8d9b038ba4cc09e5beb9bc8f476"), looks := true }, kinds := [], alts := [], laidByText := true, laidKinds := [.data, .data, .data, .data, .sentinel, .sentinel, .pinned], laidTests := true, laidLooks := .later }
def CodePrefixesUptoCardSaid : Prop := Claim7.holds Tryz.pinned (.plain (OpenSpec.upto codePrefixesSpec)) codePrefixesUptoCard

/-- THE SECOND FORM's CARD OF 'mjolnerlaw15.CodeChecks'. -/
def codeChecksUptoCard : Claim7 := { stood := { row := codeChecksUptoRow, standIns := [], harness := (true, "93830295d755f97aaf1183429f784ccb6d42a8d9b038ba4cc09e5beb9bc8f476"), looks := true }, kinds := [], alts := [], laidByText := true, laidKinds := [.data, .data, .data, .data, .sentinel, .sentinel, .pinned], laidTests := true, laidLooks := .later }
def CodeChecksUptoCardSaid : Prop := Claim7.holds Tryz.pinned (.plain (OpenSpec.upto codeChecksSpec)) codeChecksUptoCard

/-- THE SECOND FORM's CARD OF 'mjolnerlaw15.CodeNames'. -/
def codeNamesUptoCard : Claim7 := { stood := { row := codeNamesUptoRow, standIns := [], harness := (true, "93830295d755f97aaf1183429f784ccb6d42a8d9b038ba4cc09e5beb9bc8f476"), looks := true }, kinds := [], alts := [], laidByText := true, laidKinds := [.data, .data, .data, .data, .sentinel, .sentinel, .pinned], laidTests := true, laidLooks := .later }
def CodeNamesUptoCardSaid : Prop := Claim7.holds Tryz.pinned (.plain (OpenSpec.upto codeNamesSpec)) codeNamesUptoCard

/-- THE SECOND FORM's CARD OF 'mjolnerlaw15.CodeBack'. -/
def codeBackUptoCard : Claim7 := { stood := { row := codeBackUptoRow, standIns := [], harness := (true, "93830295d755f97aaf1183429f784ccb6d42a8d9b038ba4cc09e5beb9bc8f476"), looks := true }, kinds := [], alts := [], laidByText := true, laidKinds := [.data, .data, .data, .data, .sentinel, .sentinel, .pinned], laidTests := true, laidLooks := .later }
def CodeBackUptoCardSaid : Prop := Claim7.holds Tryz.pinned (.plain (OpenSpec.upto codeBackSpec)) codeBackUptoCard

/-- THE SECOND FORM's CARD OF 'mjolnerlaw15.CodeFlow'. -/
def codeFlowUptoCard : Claim7 := { stood := { row := codeFlowUptoRow, standIns := [], harness := (true, "93830295d755f97aaf1183429f784ccb6d42a8d9b038ba4cc09e5beb9bc8f476"), looks := true }, kinds := [], alts := [], laidByText := true, laidKinds := [.data, .data, .data, .data, .sentinel, .sentinel, .pinned], laidTests := true, laidLooks := .later }
def CodeFlowUptoCardSaid : Prop := Claim7.holds Tryz.pinned (.plain (OpenSpec.upto codeFlowSpec)) codeFlowUptoCard

/-- THE SECOND FORM's CARD OF 'mjolnerlaw15.CodeControl'. -/
def codeControlUptoCard : Claim7 := { stood := { row := codeControlUptoRow, standIns := [], harness := (true, "93830295d755f97aaf1183429f784ccb6d42a8d9b038ba4cc09e5beb9bc8f476"), looks := true }, kinds := [], alts := [], laidByText := true, laidKinds := [.data, .data, .data, .data, .sentinel, .sentinel, .pinned], laidTests := true, laidLooks := .later }
def CodeControlUptoCardSaid : Prop := Claim7.holds Tryz.pinned (.plain (OpenSpec.upto codeControlSpec)) codeControlUptoCard

/-- THE SECOND FORM's CARD OF 'mjolnerlaw15.CodeMarks'. -/
def codeMarksUptoCard : Claim7 := { stood := { row := codeMarksUptoRow, standIns := [], harness := (true, "93830295d755f97aaf1183429f784ccb6d42a8d9b038ba4cc09e5beb9bc8f476"), looks := true }, kinds := [], alts := [], laidByText := true, laidKinds := [.data, .data, .data, .data, .sentinel, .sentinel, .pinned], laidTests := true, laidLooks := .later }
def CodeMarksUptoCardSaid : Prop := Claim7.holds Tryz.pinned (.plain (OpenSpec.upto codeMarksSpec)) codeMarksUptoCard
end Rows
end Go.Proofs.YtlaepkmnbbgbcaaGreatDoor

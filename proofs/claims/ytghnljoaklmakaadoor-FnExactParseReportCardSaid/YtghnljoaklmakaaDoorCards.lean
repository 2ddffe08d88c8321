/-
  DERIVED. GIVEN WITH THE SEED: THE CARDS: each row of YtghnljoaklmakaaDoorRows.lean that lists a variable, with what it lists TIED to the program's text (the seventh form; the later family's looks); each row that meets fmt, with fmt's text TOLD by the authors' own Lean function (tested against real Go, not proved from fmt's source: count such statements apart). THE CARD IS WHAT COUNTS. Prove the row's statement (the work); the ties are given (YtghnljoaklmakaaDoorTie.lean); close each card by the builder's one call (the guide's Derived/Test/ToyasCard.lean, 'card_holds'). Laid BY PROGRAM, IN A SANDBOX (cutbox-door.mjs). By AI agents, Wed Nov 11 2026. No macro, syntax, notation, axiom, sorry.
-/
import Derived.Test.YtghnljoaklmakaaDoorRows
import GoSem.ClaimSeven
namespace Go.Proofs.YtghnljoaklmakaaDoor
namespace Rows

/-- THE TIED CARD OF 'laws.FnExactNoteText'. -/
def fnExactNoteTextCard : Claim7 := { stood := { row := fnExactNoteTextRow, standIns := [], harness := (true, "473a44862caf675654c5180208842fc01173ba62518eb296b907e25a22484391"), looks := true }, kinds := [], alts := [], laidByText := true, laidKinds := [.data, .data, .data], laidTests := true, laidLooks := .later }
def FnExactNoteTextCardSaid : Prop := Claim7.holds Tryd.pinned (.plain (OpenSpec.ofChange fnExactNoteTextSpec)) fnExactNoteTextCard

/-- THE TIED CARD OF 'laws.FnExactReportText'. -/
def fnExactReportTextCard : Claim7 := { stood := { row := fnExactReportTextRow, standIns := [], harness := (true, "473a44862caf675654c5180208842fc01173ba62518eb296b907e25a22484391"), looks := true }, kinds := [], alts := [], laidByText := true, laidKinds := [.data, .data, .data], laidTests := true, laidLooks := .later }
def FnExactReportTextCardSaid : Prop := Claim7.holds Tryd.pinned (.plain (OpenSpec.ofChange fnExactReportTextSpec)) fnExactReportTextCard

/-- THE TIED CARD OF 'laws.FnExactParseNote'. -/
def fnExactParseNoteCard : Claim7 := { stood := { row := fnExactParseNoteRow, standIns := [], harness := (true, "473a44862caf675654c5180208842fc01173ba62518eb296b907e25a22484391"), looks := true }, kinds := [], alts := [], laidByText := true, laidKinds := [.data, .data, .data, .sentinel, .sentinel], laidTests := true, laidLooks := .later }
def FnExactParseNoteCardSaid : Prop := Claim7.holds Tryd.pinned (.plain (OpenSpec.ofChange fnExactParseNoteSpec)) fnExactParseNoteCard

/-- THE TIED CARD OF 'laws.FnExactParseReport'. -/
def fnExactParseReportCard : Claim7 := { stood := { row := fnExactParseReportRow, standIns := [], harness := (true, "473a44862caf675654c5180208842fc01173ba62518eb296b907e25a22484391"), looks := true }, kinds := [], alts := [], laidByText := true, laidKinds := [.data, .data, .data, .sentinel, .sentinel], laidTests := true, laidLooks := .later }
def FnExactParseReportCardSaid : Prop := Claim7.holds Tryd.pinned (.plain (OpenSpec.ofChange fnExactParseReportSpec)) fnExactParseReportCard

/-- THE SECOND FORM's CARD OF 'laws.FnExactNoteText'. -/
def fnExactNoteTextUptoCard : Claim7 := { stood := { row := fnExactNoteTextUptoRow, standIns := [], harness := (true, "473a44862caf675654c5180208842fc01173ba62518eb296b907e25a22484391"), looks := true }, kinds := [], alts := [], laidByText := true, laidKinds := [.data, .data, .data], laidTests := true, laidLooks := .later }
def FnExactNoteTextUptoCardSaid : Prop := Claim7.holds Tryd.pinned (.plain (OpenSpec.upto fnExactNoteTextSpec)) fnExactNoteTextUptoCard

/-- THE SECOND FORM's CARD OF 'laws.FnExactReportText'. -/
def fnExactReportTextUptoCard : Claim7 := { stood := { row := fnExactReportTextUptoRow, standIns := [], harness := (true, "473a44862caf675654c5180208842fc01173ba62518eb296b907e25a22484391"), looks := true }, kinds := [], alts := [], laidByText := true, laidKinds := [.data, .data, .data], laidTests := true, laidLooks := .later }
def FnExactReportTextUptoCardSaid : Prop := Claim7.holds Tryd.pinned (.plain (OpenSpec.upto fnExactReportTextSpec)) fnExactReportTextUptoCard

/-- THE SECOND FORM's CARD OF 'laws.FnExactParseNote'. -/
def fnExactParseNoteUptoCard : Claim7 := { stood := { row := fnExactParseNoteUptoRow, standIns := [], harness := (true, "473a44862caf675654c5180208842fc01173ba62518eb296b907e25a22484391"), looks := true }, kinds := [], alts := [], laidByText := true, laidKinds := [.data, .data, .data, .sentinel, .sentinel], laidTests := true, laidLooks := .later }
def FnExactParseNoteUptoCardSaid : Prop := Claim7.holds Tryd.pinned (.plain (OpenSpec.upto fnExactParseNoteSpec)) fnExactParseNoteUptoCard

/-- THE SECOND FORM's CARD OF 'laws.FnExactParseReport'. -/
def fnExactParseReportUptoCard : Claim7 := { stood := { row := fnExactParseReportUptoRow, standIns := [], harness := (true, "473a44862caf675654c5180208842fc01173ba62518eb296b907e25a22484391"), looks := true }, kinds := [], alts := [], laidByText := true, laidKinds := [.data, .data, .data, .sentinel, .sentinel], laidTests := true, laidLooks := .later }
def FnExactParseReportUptoCardSaid : Prop := Claim7.holds Tryd.pinned (.plain (OpenSpec.upto fnExactParseReportSpec)) fnExactParseReportUptoCard
end Rows
end Go.Proofs.YtghnljoaklmakaaDoor

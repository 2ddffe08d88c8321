/-
  DERIVED. GIVEN WITH THE SEED: THE CARDS: each row of YtpalafegcndccaaDoorRows.lean that lists a variable, with what it lists TIED to the program's text (the seventh form; the later family's looks); each row that meets fmt, with fmt's text TOLD by the authors' own Lean function (tested against real Go, not proved from fmt's source: count such statements apart). THE CARD IS WHAT COUNTS. Prove the row's statement (the work); the ties are given (YtpalafegcndccaaDoorTie.lean); close each card by the builder's one call (the guide's Derived/Test/ToyasCard.lean, 'card_holds'). Laid BY PROGRAM, IN A SANDBOX (cutbox-door.mjs). By AI agents, Wed Nov 11 2026. No macro, syntax, notation, axiom, sorry.
-/
import Derived.Test.YtpalafegcndccaaDoorRows
import GoSem.ClaimSeven
namespace Go.Proofs.YtpalafegcndccaaDoor
namespace Rows

/-- THE TIED CARD OF 'laws.FnExactHistoryText'. -/
def fnExactHistoryTextCard : Claim7 := { stood := { row := fnExactHistoryTextRow, standIns := [], harness := (true, "d63b0e492804cc4184f76d7010eba84c8670ebb5bab97d3b8c5f434333da6478"), looks := true }, kinds := [], alts := [], laidByText := true, laidKinds := [.data, .data, .data], laidTests := true, laidLooks := .later }
def FnExactHistoryTextCardSaid : Prop := Claim7.holds Tryd.pinned (.plain (OpenSpec.ofChange fnExactHistoryTextSpec)) fnExactHistoryTextCard

/-- THE TIED CARD OF 'laws.FnExactParseHistory'. -/
def fnExactParseHistoryCard : Claim7 := { stood := { row := fnExactParseHistoryRow, standIns := [], harness := (true, "d63b0e492804cc4184f76d7010eba84c8670ebb5bab97d3b8c5f434333da6478"), looks := true }, kinds := [], alts := [], laidByText := true, laidKinds := [.data, .data, .data, .data, .sentinel, .sentinel, .pinned], laidTests := true, laidLooks := .later }
def FnExactParseHistoryCardSaid : Prop := Claim7.holds Tryd.pinned (.plain (OpenSpec.ofChange fnExactParseHistorySpec)) fnExactParseHistoryCard

/-- THE TIED CARD OF 'laws.FnHistories'. -/
def fnHistoriesCard : Claim7 := { stood := { row := fnHistoriesRow, standIns := [], harness := (true, "d63b0e492804cc4184f76d7010eba84c8670ebb5bab97d3b8c5f434333da6478"), looks := true }, kinds := [], alts := [], laidByText := true, laidKinds := [.data, .data, .data, .data, .sentinel, .sentinel, .pinned], laidTests := true, laidLooks := .later }
def FnHistoriesCardSaid : Prop := Claim7.holds Tryd.pinned (.plain (OpenSpec.ofChange fnHistoriesSpec)) fnHistoriesCard

/-- THE SECOND FORM's CARD OF 'laws.FnExactHistoryText'. -/
def fnExactHistoryTextUptoCard : Claim7 := { stood := { row := fnExactHistoryTextUptoRow, standIns := [], harness := (true, "d63b0e492804cc4184f76d7010eba84c8670ebb5bab97d3b8c5f434333da6478"), looks := true }, kinds := [], alts := [], laidByText := true, laidKinds := [.data, .data, .data], laidTests := true, laidLooks := .later }
def FnExactHistoryTextUptoCardSaid : Prop := Claim7.holds Tryd.pinned (.plain (OpenSpec.upto fnExactHistoryTextSpec)) fnExactHistoryTextUptoCard

/-- THE SECOND FORM's CARD OF 'laws.FnExactParseHistory'. -/
def fnExactParseHistoryUptoCard : Claim7 := { stood := { row := fnExactParseHistoryUptoRow, standIns := [], harness := (true, "d63b0e492804cc4184f76d7010eba84c8670ebb5bab97d3b8c5f434333da6478"), looks := true }, kinds := [], alts := [], laidByText := true, laidKinds := [.data, .data, .data, .data, .sentinel, .sentinel, .pinned], laidTests := true, laidLooks := .later }
def FnExactParseHistoryUptoCardSaid : Prop := Claim7.holds Tryd.pinned (.plain (OpenSpec.upto fnExactParseHistorySpec)) fnExactParseHistoryUptoCard

/-- THE SECOND FORM's CARD OF 'laws.FnHistories'. -/
def fnHistoriesUptoCard : Claim7 := { stood := { row := fnHistoriesUptoRow, standIns := [], harness := (true, "d63b0e492804cc4184f76d7010eba84c8670ebb5bab97d3b8c5f434333da6478"), looks := true }, kinds := [], alts := [], laidByText := true, laidKinds := [.data, .data, .data, .data, .sentinel, .sentinel, .pinned], laidTests := true, laidLooks := .later }
def FnHistoriesUptoCardSaid : Prop := Claim7.holds Tryd.pinned (.plain (OpenSpec.upto fnHistoriesSpec)) fnHistoriesUptoCard
end Rows
end Go.Proofs.YtpalafegcndccaaDoor

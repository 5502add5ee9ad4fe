/-
  DERIVED. GIVEN WITH THE SEED: THE CARDS: each row of YtolbfeggceemfaaGreatDoorRows.lean that lists a variable, with what it lists TIED to the program's text (the seventh form; the later family's looks); each row that meets fmt, with fmt's text TOLD by the authors' own Lean function (tested against real Go, not proved from fmt's source: count such statements apart). THE CARD IS WHAT COUNTS. Prove the row's statement (the work); the ties are given (YtolbfeggceemfaaGreatDoorTie.lean); close each card by the builder's one call (the guide's Derived/Test/ToyasCard.lean, 'card_holds'). Laid BY PROGRAM, IN A SANDBOX (cutbox-door.mjs). By AI agents, Wed Nov 11 2026. No macro, syntax, notation, axiom, sorry.
-/
import Derived.Test.YtolbfeggceemfaaGreatDoorRows
import GoSem.ClaimSeven
namespace Go.Proofs.YtolbfeggceemfaaGreatDoor
namespace Rows

/-- THE TIED CARD OF 'wimplelaw28.ConsoleBegins'. -/
def consoleBeginsCard : Claim7 := { stood := { row := consoleBeginsRow, standIns := [], harness := (true, "103583ea51ce04849888c92e0aff4f249d7cac9a816a9386f9f6fd075b70492c"), looks := true }, kinds := [], alts := [], laidByText := true, laidKinds := [.data, .data, .data, .data, .sentinel, .sentinel, .pinned], laidTests := true, laidLooks := .later }
def ConsoleBeginsCardSaid : Prop := Claim7.holds Tryz.pinned (.plain (OpenSpec.ofChange consoleBeginsSpec)) consoleBeginsCard

/-- THE TIED CARD OF 'wimplelaw28.ConsoleNames'. -/
def consoleNamesCard : Claim7 := { stood := { row := consoleNamesRow, standIns := [], harness := (true, "103583ea51ce04849888c92e0aff4f249d7cac9a816a9386f9f6fd075b70492c"), looks := true }, kinds := [], alts := [], laidByText := true, laidKinds := [.data, .data, .data, .data, .sentinel, .sentinel, .pinned], laidTests := true, laidLooks := .later }
def ConsoleNamesCardSaid : Prop := Claim7.holds Tryz.pinned (.plain (OpenSpec.ofChange consoleNamesSpec)) consoleNamesCard

/-- THE TIED CARD OF 'wimplelaw28.ConsoleSteps'. -/
def consoleStepsCard : Claim7 := { stood := { row := consoleStepsRow, standIns := [], harness := (true, "103583ea51ce04849888c92e0aff4f249d7cac9a816a9386f9f6fd075b70492c"), looks := true }, kinds := [], alts := [], laidByText := true, laidKinds := [.data, .data, .data, .data, .sentinel, .sentinel, .pinned], laidTests := true, laidLooks := .later }
def ConsoleStepsCardSaid : Prop := Claim7.holds Tryz.pinned (.plain (OpenSpec.ofChange consoleStepsSpec)) consoleStepsCard

/-- THE TIED CARD OF 'wimplelaw28.ConsoleMany'. -/
def consoleManyCard : Claim7 := { stood := { row := consoleManyRow, standIns := [], harness := (true, "103583ea51ce04849888c92e0aff4f249d7cac9a816a9386f9f6fd075b70492c"), looks := true }, kinds := [], alts := [], laidByText := true, laidKinds := [.data, .data, .data, .data, .sentinel, .sentinel, .pinned], laidTests := true, laidLooks := .later }
def ConsoleManyCardSaid : Prop := Claim7.holds Tryz.pinned (.plain (OpenSpec.ofChange consoleManySpec)) consoleManyCard

/-- THE TIED CARD OF 'wimplelaw28.ConsoleQueries'. -/
def consoleQueriesCard : Claim7 := { stood := { row := consoleQueriesRow, standIns := [], harness := (true, "103583ea51ce04849888c92e0aff4f249d7cac9a816a9386f9f6fd075b70492c"), looks := true }, kinds := [], alts := [], laidByText := true, laidKinds := [.data, .data, .data, .data, .sentinel, .sentinel, .pinned], laidTests := true, laidLooks := .later }
def ConsoleQueriesCardSaid : Prop := Claim7.holds Tryz.pinned (.plain (OpenSpec.ofChange consoleQueriesSpec)) consoleQueriesCard

/-- THE SECOND FORM's CARD OF 'wimplelaw28.ConsoleBegins'. -/
def consoleBeginsUptoCard : Claim7 := { stood := { row := consoleBeginsUptoRow, standIns := [], harness := (true, "103583ea51ce04849888c92e0aff4f249d7cac9a816a9386f9f6fd075b70492c"), looks := true }, kinds := [], alts := [], laidByText := true, laidKinds := [.data, .data, .data, .data, .sentinel, .sentinel, .pinned], laidTests := true, laidLooks := .later }
def ConsoleBeginsUptoCardSaid : Prop := Claim7.holds Tryz.pinned (.plain (OpenSpec.upto consoleBeginsSpec)) consoleBeginsUptoCard

/-- THE SECOND FORM's CARD OF 'wimplelaw28.ConsoleNames'. -/
def consoleNamesUptoCard : Claim7 := { stood := { row := consoleNamesUptoRow, standIns := [], harness := (true, "103583ea51ce04849888c92e0aff4f249d7cac9a816a9386f9f6fd075b70492c"), looks := true }, kinds := [], alts := [], laidByText := true, laidKinds := [.data, .data, .data, .data, .sentinel, .sentinel, .pinned], laidTests := true, laidLooks := .later }
def ConsoleNamesUptoCardSaid : Prop := Claim7.holds Tryz.pinned (.plain (OpenSpec.upto consoleNamesSpec)) consoleNamesUptoCard

/-- THE SECOND FORM's CARD OF 'wimplelaw28.ConsoleSteps'. -/
def consoleStepsUptoCard : Claim7 := { stood := { row := consoleStepsUptoRow, standIns := [], harness := (true, "103583ea51ce04849888c92e0aff4f249d7cac9a816a9386f9f6fd075b70492c"), looks := true }, kinds := [], alts := [], laidByText := true, laidKinds := [.data, .data, .data, .data, .sentinel, .sentinel, .pinned], laidTests := true, laidLooks := .later }
def ConsoleStepsUptoCardSaid : Prop := Claim7.holds Tryz.pinned (.plain (OpenSpec.upto consoleStepsSpec)) consoleStepsUptoCard

/-- THE SECOND FORM's CARD OF 'wimplelaw28.ConsoleMany'. -/
def consoleManyUptoCard : Claim7 := { stood := { row := consoleManyUptoRow, standIns := [], harness := (true, "103583ea51ce04849888c92e0aff4f249d7cac9a816a9386f9f6fd075b70492c"), looks := true }, kinds := [], alts := [], laidByText := true, laidKinds := [.data, .data, .data, .data, .sentinel, .sentinel, .pinned], laidTests := true, laidLooks := .later }
def ConsoleManyUptoCardSaid : Prop := Claim7.holds Tryz.pinned (.plain (OpenSpec.upto consoleManySpec)) consoleManyUptoCard

/-- THE SECOND FORM's CARD OF 'wimplelaw28.ConsoleQueries'. -/
def consoleQueriesUptoCard : Claim7 := { stood := { row := consoleQueriesUptoRow, standIns := [], harness := (true, "103583ea51ce04849888c92e0aff4f249d7cac9a816a9386f9f6fd075b70492c"), looks := true }, kinds := [], alts := [], laidByText := true, laidKinds := [.data, .data, .data, .data, .sentinel, .sentinel, .pinned], laidTests := true, laidLooks := .later }
def ConsoleQueriesUptoCardSaid : Prop := Claim7.holds Tryz.pinned (.plain (OpenSpec.upto consoleQueriesSpec)) consoleQueriesUptoCard
end Rows
end Go.Proofs.YtolbfeggceemfaaGreatDoor

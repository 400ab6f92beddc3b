/-
  DERIVED. GIVEN WITH THE SEED: THE CARDS: each row of YtbdakgkjomanlaaDoorRows.lean that lists a variable, with what it lists TIED to the program's text (the seventh form; the later family's looks); each row that meets fmt, with fmt's text TOLD by the authors' own Lean function (tested against real Go, not proved from fmt's source: count such statements apart). THE CARD IS WHAT COUNTS. Prove the row's statement (the work); the ties are given (YtbdakgkjomanlaaDoorTie.lean); close each card by the builder's one call (the guide's Derived/Test/ToyasCard.lean, 'card_holds'). Laid BY PROGRAM, IN A SANDBOX (cutbox-door.mjs). By AI agents, Wed Nov 11 2026. No macro, syntax, notation, axiom, sorry.
-/
import Derived.Test.YtbdakgkjomanlaaDoorRows
import GoSem.ClaimSeven
namespace Go.Proofs.YtbdakgkjomanlaaDoor
namespace Rows

/-- THE TIED CARD OF 'wireglasslaw21.KeyLogs'. -/
def keyLogsCard : Claim7 := { stood := { row := keyLogsRow, standIns := [], harness := (true, "1029a4bf6fcd2561e5ea3e18d70d977bef032eb49e5513444afc2caa8cfadbdb"), looks := false }, kinds := [], alts := [], laidByText := true, laidKinds := [.data, .pinned, .pinned], laidTests := true, laidLooks := .later }
def KeyLogsCardSaid : Prop := Claim7.holds Tryd.pinned (.plain (OpenSpec.ofChange keyLogsSpec)) keyLogsCard

/-- THE TIED CARD OF 'wireglasslaw21.KeyLines'. -/
def keyLinesCard : Claim7 := { stood := { row := keyLinesRow, standIns := [], harness := (true, "1029a4bf6fcd2561e5ea3e18d70d977bef032eb49e5513444afc2caa8cfadbdb"), looks := false }, kinds := [], alts := [], laidByText := true, laidKinds := [.data, .pinned, .pinned], laidTests := true, laidLooks := .later }
def KeyLinesCardSaid : Prop := Claim7.holds Tryd.pinned (.plain (OpenSpec.ofChange keyLinesSpec)) keyLinesCard

/-- THE SECOND FORM's CARD OF 'wireglasslaw21.KeyLogs'. -/
def keyLogsUptoCard : Claim7 := { stood := { row := keyLogsUptoRow, standIns := [], harness := (true, "1029a4bf6fcd2561e5ea3e18d70d977bef032eb49e5513444afc2caa8cfadbdb"), looks := false }, kinds := [], alts := [], laidByText := true, laidKinds := [.data, .pinned, .pinned], laidTests := true, laidLooks := .later }
def KeyLogsUptoCardSaid : Prop := Claim7.holds Tryd.pinned (.plain (OpenSpec.upto keyLogsSpec)) keyLogsUptoCard

/-- THE SECOND FORM's CARD OF 'wireglasslaw21.KeyLines'. -/
def keyLinesUptoCard : Claim7 := { stood := { row := keyLinesUptoRow, standIns := [], harness := (true, "1029a4bf6fcd2561e5ea3e18d70d977bef032eb49e5513444afc2caa8cfadbdb"), looks := false }, kinds := [], alts := [], laidByText := true, laidKinds := [.data, .pinned, .pinned], laidTests := true, laidLooks := .later }
def KeyLinesUptoCardSaid : Prop := Claim7.holds Tryd.pinned (.plain (OpenSpec.upto keyLinesSpec)) keyLinesUptoCard
end Rows
end Go.Proofs.YtbdakgkjomanlaaDoor

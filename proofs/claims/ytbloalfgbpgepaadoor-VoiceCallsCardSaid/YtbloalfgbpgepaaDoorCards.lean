/-
  DERIVED. GIVEN WITH THE SEED: THE CARDS: each row of YtbloalfgbpgepaaDoorRows.lean that lists a variable, with what it lists TIED to the program's text (the seventh form; the later family's looks); each row that meets fmt, with fmt's text TOLD by the authors' own Lean function (tested against real Go, not proved from fmt's source: count such statements apart). THE CARD IS WHAT COUNTS. Prove the row's statement (the work); the ties are given (YtbloalfgbpgepaaDoorTie.lean); close each card by the builder's one call (the guide's Derived/Test/ToyasCard.lean, 'card_holds'). Laid BY PROGRAM, IN A SANDBOX (cutbox-door.mjs). By AI agents, Wed Nov 11 2026. No macro, syntax, notation, axiom, sorry.
-/
import Derived.Test.YtbloalfgbpgepaaDoorRows
import GoSem.ClaimSeven
namespace Go.Proofs.YtbloalfgbpgepaaDoor
namespace Rows

/-- THE TIED CARD OF 'wireglasslaw25.VoiceCalls'. -/
def voiceCallsCard : Claim7 := { stood := { row := voiceCallsRow, standIns := [], harness := (true, "6ac2abb1f8e4cfc24d048bfb8433ff34634364470e428c4fce0e606e997cb493"), looks := false }, kinds := [], alts := [], laidByText := true, laidKinds := [.data, .data, .data], laidTests := true, laidLooks := .later }
def VoiceCallsCardSaid : Prop := Claim7.holds Tryd.pinned (.plain (OpenSpec.ofChange voiceCallsSpec)) voiceCallsCard

/-- THE SECOND FORM's CARD OF 'wireglasslaw25.VoiceCalls'. -/
def voiceCallsUptoCard : Claim7 := { stood := { row := voiceCallsUptoRow, standIns := [], harness := (true, "6ac2abb1f8e4cfc24d048bfb8433ff34634364470e428c4fce0e606e997cb493"), looks := false }, kinds := [], alts := [], laidByText := true, laidKinds := [.data, .data, .data], laidTests := true, laidLooks := .later }
def VoiceCallsUptoCardSaid : Prop := Claim7.holds Tryd.pinned (.plain (OpenSpec.upto voiceCallsSpec)) voiceCallsUptoCard
end Rows
end Go.Proofs.YtbloalfgbpgepaaDoor

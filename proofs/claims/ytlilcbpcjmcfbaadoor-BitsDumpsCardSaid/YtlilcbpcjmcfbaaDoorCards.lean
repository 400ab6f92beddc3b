/-
  DERIVED. GIVEN WITH THE SEED: THE CARDS: each row of YtlilcbpcjmcfbaaDoorRows.lean that lists a variable, with what it lists TIED to the program's text (the seventh form; the later family's looks); each row that meets fmt, with fmt's text TOLD by the authors' own Lean function (tested against real Go, not proved from fmt's source: count such statements apart). THE CARD IS WHAT COUNTS. Prove the row's statement (the work); the ties are given (YtlilcbpcjmcfbaaDoorTie.lean); close each card by the builder's one call (the guide's Derived/Test/ToyasCard.lean, 'card_holds'). Laid BY PROGRAM, IN A SANDBOX (cutbox-door.mjs). By AI agents, Wed Nov 11 2026. No macro, syntax, notation, axiom, sorry.
-/
import Derived.Test.YtlilcbpcjmcfbaaDoorRows
import GoSem.ClaimSeven
namespace Go.Proofs.YtlilcbpcjmcfbaaDoor
namespace Rows

/-- THE TIED CARD OF 'wireglasslaw01.BitsDumps'. -/
def bitsDumpsCard : Claim7 := { stood := { row := bitsDumpsRow, standIns := [], harness := (true, "1b13cf74bd96ee338aaa0e3ff55c6cfe3fbdad25f3600847e0d9f3d18a51c511"), looks := false }, kinds := [], alts := [], laidByText := true, laidKinds := [.data, .pinned], laidTests := true, laidLooks := .later }
def BitsDumpsCardSaid : Prop := Claim7.holds Tryd.pinned (.plain (OpenSpec.ofChange bitsDumpsSpec)) bitsDumpsCard

/-- THE TIED CARD OF 'wireglasslaw01.BitsTexts'. -/
def bitsTextsCard : Claim7 := { stood := { row := bitsTextsRow, standIns := [], harness := (true, "1b13cf74bd96ee338aaa0e3ff55c6cfe3fbdad25f3600847e0d9f3d18a51c511"), looks := false }, kinds := [], alts := [], laidByText := true, laidKinds := [.data, .pinned], laidTests := true, laidLooks := .later }
def BitsTextsCardSaid : Prop := Claim7.holds Tryd.pinned (.plain (OpenSpec.ofChange bitsTextsSpec)) bitsTextsCard

/-- THE SECOND FORM's CARD OF 'wireglasslaw01.BitsDumps'. -/
def bitsDumpsUptoCard : Claim7 := { stood := { row := bitsDumpsUptoRow, standIns := [], harness := (true, "1b13cf74bd96ee338aaa0e3ff55c6cfe3fbdad25f3600847e0d9f3d18a51c511"), looks := false }, kinds := [], alts := [], laidByText := true, laidKinds := [.data, .pinned], laidTests := true, laidLooks := .later }
def BitsDumpsUptoCardSaid : Prop := Claim7.holds Tryd.pinned (.plain (OpenSpec.upto bitsDumpsSpec)) bitsDumpsUptoCard

/-- THE SECOND FORM's CARD OF 'wireglasslaw01.BitsTexts'. -/
def bitsTextsUptoCard : Claim7 := { stood := { row := bitsTextsUptoRow, standIns := [], harness := (true, "1b13cf74bd96ee338aaa0e3ff55c6cfe3fbdad25f3600847e0d9f3d18a51c511"), looks := false }, kinds := [], alts := [], laidByText := true, laidKinds := [.data, .pinned], laidTests := true, laidLooks := .later }
def BitsTextsUptoCardSaid : Prop := Claim7.holds Tryd.pinned (.plain (OpenSpec.upto bitsTextsSpec)) bitsTextsUptoCard
end Rows
end Go.Proofs.YtlilcbpcjmcfbaaDoor

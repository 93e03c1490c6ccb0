/-
  DERIVED. GIVEN WITH THE SEED: THE CARDS: each row of YtaokegobilphnaaGreatDoorRows.lean that lists a variable, with what it lists TIED to the program's text (the seventh form; the later family's looks); each row that meets fmt, with fmt's text TOLD by the authors' own Lean function (tested against real Go, not proved from fmt's source: count such statements apart). THE CARD IS WHAT COUNTS. Prove the row's statement (the work); the ties are given (YtaokegobilphnaaGreatDoorTie.lean); close each card by the builder's one call (the guide's Derived/Test/ToyasCard.lean, 'card_holds'). Laid BY PROGRAM, IN A SANDBOX (cutbox-door.mjs). By AI agents, Wed Nov 11 2026. No macro, syntax, notation, axiom, sorry.
-/
import Derived.Test.YtaokegobilphnaaGreatDoorRows
import GoSem.ClaimSeven
namespace Go.Proofs.YtaokegobilphnaaGreatDoor
namespace Rows

/-- THE TIED CARD OF 'polynyalaw13.LogEntries'. -/
def logEntriesCard : Claim7 := { stood := { row := logEntriesRow, standIns := [], harness := (true, "47a0a3b256df165a437f5748b35781355e4d351723b285972ea71a6386011850"), looks := true }, kinds := [], alts := [], laidByText := true, laidKinds := [.data, .data, .data, .data, .pinned], laidTests := true, laidLooks := .later }
def LogEntriesCardSaid : Prop := Claim7.holds Tryz.pinned (.plain (OpenSpec.ofChange logEntriesSpec)) logEntriesCard

/-- THE TIED CARD OF 'polynyalaw13.LogLines'. -/
def logLinesCard : Claim7 := { stood := { row := logLinesRow, standIns := [], harness := (true, "47a0a3b256df165a437f5748b35781355e4d351723b285972ea71a6386011850"), looks := true }, kinds := [], alts := [], laidByText := true, laidKinds := [.data, .data, .data, .data, .pinned], laidTests := true, laidLooks := .later }
def LogLinesCardSaid : Prop := Claim7.holds Tryz.pinned (.plain (OpenSpec.ofChange logLinesSpec)) logLinesCard

/-- THE TIED CARD OF 'polynyalaw13.LogCharts'. -/
def logChartsCard : Claim7 := { stood := { row := logChartsRow, standIns := [], harness := (true, "47a0a3b256df165a437f5748b35781355e4d351723b285972ea71a6386011850"), looks := true }, kinds := [], alts := [], laidByText := true, laidKinds := [.data, .data, .data, .data, .pinned], laidTests := true, laidLooks := .later }
def LogChartsCardSaid : Prop := Claim7.holds Tryz.pinned (.plain (OpenSpec.ofChange logChartsSpec)) logChartsCard

/-- THE TIED CARD OF 'polynyalaw13.LogDamage'. -/
def logDamageCard : Claim7 := { stood := { row := logDamageRow, standIns := [], harness := (true, "47a0a3b256df165a437f5748b35781355e4d351723b285972ea71a6386011850"), looks := true }, kinds := [], alts := [], laidByText := true, laidKinds := [.data, .data, .data, .data, .pinned], laidTests := true, laidLooks := .later }
def LogDamageCardSaid : Prop := Claim7.holds Tryz.pinned (.plain (OpenSpec.ofChange logDamageSpec)) logDamageCard

/-- THE TIED CARD OF 'polynyalaw13.LogBack'. -/
def logBackCard : Claim7 := { stood := { row := logBackRow, standIns := [], harness := (true, "47a0a3b256df165a437f5748b35781355e4d351723b285972ea71a6386011850"), looks := true }, kinds := [], alts := [], laidByText := true, laidKinds := [.data, .data, .data, .data, .pinned], laidTests := true, laidLooks := .later }
def LogBackCardSaid : Prop := Claim7.holds Tryz.pinned (.plain (OpenSpec.ofChange logBackSpec)) logBackCard

/-- THE TIED CARD OF 'polynyalaw13.LogSmall'. -/
def logSmallCard : Claim7 := { stood := { row := logSmallRow, standIns := [], harness := (true, "47a0a3b256df165a437f5748b35781355e4d351723b285972ea71a6386011850"), looks := true }, kinds := [], alts := [], laidByText := true, laidKinds := [.data, .data, .data, .data, .pinned], laidTests := true, laidLooks := .later }
def LogSmallCardSaid : Prop := Claim7.holds Tryz.pinned (.plain (OpenSpec.ofChange logSmallSpec)) logSmallCard

/-- THE SECOND FORM's CARD OF 'polynyalaw13.LogEntries'. -/
def logEntriesUptoCard : Claim7 := { stood := { row := logEntriesUptoRow, standIns := [], harness := (true, "47a0a3b256df165a437f5748b35781355e4d351723b285972ea71a6386011850"), looks := true }, kinds := [], alts := [], laidByText := true, laidKinds := [.data, .data, .data, .data, .pinned], laidTests := true, laidLooks := .later }
def LogEntriesUptoCardSaid : Prop := Claim7.holds Tryz.pinned (.plain (OpenSpec.upto logEntriesSpec)) logEntriesUptoCard

/-- THE SECOND FORM's CARD OF 'polynyalaw13.LogLines'. -/
def logLinesUptoCard : Claim7 := { stood := { row := logLinesUptoRow, standIns := [], harness := (true, "47a0a3b256df165a437f5748b35781355e4d351723b285972ea71a6386011850"), looks := true }, kinds := [], alts := [], laidByText := true, laidKinds := [.data, .data, .data, .data, .pinned], laidTests := true, laidLooks := .later }
def LogLinesUptoCardSaid : Prop := Claim7.holds Tryz.pinned (.plain (OpenSpec.upto logLinesSpec)) logLinesUptoCard

/-- THE SECOND FORM's CARD OF 'polynyalaw13.LogCharts'. -/
def logChartsUptoCard : Claim7 := { stood := { row := logChartsUptoRow, standIns := [], harness := (true, "47a0a3b256df165a437f5748b35781355e4d351723b285972ea71a6386011850"), looks := true }, kinds := [], alts := [], laidByText := true, laidKinds := [.data, .data, .data, .data, .pinned], laidTests := true, laidLooks := .later }
def LogChartsUptoCardSaid : Prop := Claim7.holds Tryz.pinned (.plain (OpenSpec.upto logChartsSpec)) logChartsUptoCard

/-- THE SECOND FORM's CARD OF 'polynyalaw13.LogDamage'. -/
def logDamageUptoCard : Claim7 := { stood := { row := logDamageUptoRow, standIns := [], harness := (true, "47a0a3b256df165a437f5748b35781355e4d351723b285972ea71a6386011850"), looks := true }, kinds := [], alts := [], laidByText := true, laidKinds := [.data, .data, .data, .data, .pinned], laidTests := true, laidLooks := .later }
def LogDamageUptoCardSaid : Prop := Claim7.holds Tryz.pinned (.plain (OpenSpec.upto logDamageSpec)) logDamageUptoCard

/-- THE SECOND FORM's CARD OF 'polynyalaw13.LogBack'. -/
def logBackUptoCard : Claim7 := { stood := { row := logBackUptoRow, standIns := [], harness := (true, "47a0a3b256df165a437f5748b35781355e4d351723b285972ea71a6386011850"), looks := true }, kinds := [], alts := [], laidByText := true, laidKinds := [.data, .data, .data, .data, .pinned], laidTests := true, laidLooks := .later }
def LogBackUptoCardSaid : Prop := Claim7.holds Tryz.pinned (.plain (OpenSpec.upto logBackSpec)) logBackUptoCard

/-- THE SECOND FORM's CARD OF 'polynyalaw13.LogSmall'. -/
def logSmallUptoCard : Claim7 := { stood := { row := logSmallUptoRow, standIns := [], harness := (true, "47a0a3b256df165a437f5748b35781355e4d351723b285972ea71a6386011850"), looks := true }, kinds := [], alts := [], laidByText := true, laidKinds := [.data, .data, .data, .data, .pinned], laidTests := true, laidLooks := .later }
def LogSmallUptoCardSaid : Prop := Claim7.holds Tryz.pinned (.plain (OpenSpec.upto logSmallSpec)) logSmallUptoCard
end Rows
end Go.Proofs.YtaokegobilphnaaGreatDoor

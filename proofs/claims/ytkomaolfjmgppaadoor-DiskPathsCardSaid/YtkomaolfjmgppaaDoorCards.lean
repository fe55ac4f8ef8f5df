/-
  DERIVED. GIVEN WITH THE SEED: THE CARDS: each row of YtkomaolfjmgppaaDoorRows.lean that lists a variable, with what it lists TIED to the program's text (the seventh form; the later family's looks); each row that meets fmt, with fmt's text TOLD by the authors' own Lean function (tested against real Go, not proved from fmt's source: count such statements apart). THE CARD IS WHAT COUNTS. Prove the row's statement (the work); the ties are given (YtkomaolfjmgppaaDoorTie.lean); close each card by the builder's one call (the guide's Derived/Test/ToyasCard.lean, 'card_holds'). Laid BY PROGRAM, IN A SANDBOX (cutbox-door.mjs). By AI agents, Wed Nov 11 2026. No macro, syntax, notation, axiom, sorry.
-/
import Derived.Test.YtkomaolfjmgppaaDoorRows
import GoSem.ClaimSeven
namespace Go.Proofs.YtkomaolfjmgppaaDoor
namespace Rows

/-- THE TIED CARD OF 'ostlerlaw13.DiskPaths'. -/
def diskPathsCard : Claim7 := { stood := { row := diskPathsRow, standIns := [], harness := (true, "3ec3246fe05e82746fc2a6de5a4f18a2ee475780c7b8dc723f5be68951961fc5"), looks := true }, kinds := [], alts := [], laidByText := true, laidKinds := [.data, .pinned], laidTests := true, laidLooks := .later }
def DiskPathsCardSaid : Prop := Claim7.holds Tryd.pinned (.plain (OpenSpec.ofChange diskPathsSpec)) diskPathsCard

/-- THE TIED CARD OF 'ostlerlaw13.DiskCounts'. -/
def diskCountsCard : Claim7 := { stood := { row := diskCountsRow, standIns := [], harness := (true, "3ec3246fe05e82746fc2a6de5a4f18a2ee475780c7b8dc723f5be68951961fc5"), looks := true }, kinds := [], alts := [], laidByText := true, laidKinds := [.data, .pinned], laidTests := true, laidLooks := .later }
def DiskCountsCardSaid : Prop := Claim7.holds Tryd.pinned (.plain (OpenSpec.ofChange diskCountsSpec)) diskCountsCard

/-- THE TIED CARD OF 'ostlerlaw13.DiskPlays'. -/
def diskPlaysCard : Claim7 := { stood := { row := diskPlaysRow, standIns := [], harness := (true, "3ec3246fe05e82746fc2a6de5a4f18a2ee475780c7b8dc723f5be68951961fc5"), looks := true }, kinds := [], alts := [], laidByText := true, laidKinds := [.data, .pinned], laidTests := true, laidLooks := .later }
def DiskPlaysCardSaid : Prop := Claim7.holds Tryd.pinned (.plain (OpenSpec.ofChange diskPlaysSpec)) diskPlaysCard

/-- THE TIED CARD OF 'ostlerlaw13.DiskKeeps'. -/
def diskKeepsCard : Claim7 := { stood := { row := diskKeepsRow, standIns := [], harness := (true, "3ec3246fe05e82746fc2a6de5a4f18a2ee475780c7b8dc723f5be68951961fc5"), looks := true }, kinds := [], alts := [], laidByText := true, laidKinds := [.data, .pinned], laidTests := true, laidLooks := .later }
def DiskKeepsCardSaid : Prop := Claim7.holds Tryd.pinned (.plain (OpenSpec.ofChange diskKeepsSpec)) diskKeepsCard

/-- THE TIED CARD OF 'ostlerlaw13.DiskNil'. -/
def diskNilCard : Claim7 := { stood := { row := diskNilRow, standIns := [], harness := (true, "3ec3246fe05e82746fc2a6de5a4f18a2ee475780c7b8dc723f5be68951961fc5"), looks := true }, kinds := [], alts := [], laidByText := true, laidKinds := [.data, .pinned], laidTests := true, laidLooks := .later }
def DiskNilCardSaid : Prop := Claim7.holds Tryd.pinned (.plain (OpenSpec.ofChange diskNilSpec)) diskNilCard

/-- THE SECOND FORM's CARD OF 'ostlerlaw13.DiskPaths'. -/
def diskPathsUptoCard : Claim7 := { stood := { row := diskPathsUptoRow, standIns := [], harness := (true, "3ec3246fe05e82746fc2a6de5a4f18a2ee475780c7b8dc723f5be68951961fc5"), looks := true }, kinds := [], alts := [], laidByText := true, laidKinds := [.data, .pinned], laidTests := true, laidLooks := .later }
def DiskPathsUptoCardSaid : Prop := Claim7.holds Tryd.pinned (.plain (OpenSpec.upto diskPathsSpec)) diskPathsUptoCard

/-- THE SECOND FORM's CARD OF 'ostlerlaw13.DiskCounts'. -/
def diskCountsUptoCard : Claim7 := { stood := { row := diskCountsUptoRow, standIns := [], harness := (true, "3ec3246fe05e82746fc2a6de5a4f18a2ee475780c7b8dc723f5be68951961fc5"), looks := true }, kinds := [], alts := [], laidByText := true, laidKinds := [.data, .pinned], laidTests := true, laidLooks := .later }
def DiskCountsUptoCardSaid : Prop := Claim7.holds Tryd.pinned (.plain (OpenSpec.upto diskCountsSpec)) diskCountsUptoCard

/-- THE SECOND FORM's CARD OF 'ostlerlaw13.DiskPlays'. -/
def diskPlaysUptoCard : Claim7 := { stood := { row := diskPlaysUptoRow, standIns := [], harness := (true, "3ec3246fe05e82746fc2a6de5a4f18a2ee475780c7b8dc723f5be68951961fc5"), looks := true }, kinds := [], alts := [], laidByText := true, laidKinds := [.data, .pinned], laidTests := true, laidLooks := .later }
def DiskPlaysUptoCardSaid : Prop := Claim7.holds Tryd.pinned (.plain (OpenSpec.upto diskPlaysSpec)) diskPlaysUptoCard

/-- THE SECOND FORM's CARD OF 'ostlerlaw13.DiskKeeps'. -/
def diskKeepsUptoCard : Claim7 := { stood := { row := diskKeepsUptoRow, standIns := [], harness := (true, "3ec3246fe05e82746fc2a6de5a4f18a2ee475780c7b8dc723f5be68951961fc5"), looks := true }, kinds := [], alts := [], laidByText := true, laidKinds := [.data, .pinned], laidTests := true, laidLooks := .later }
def DiskKeepsUptoCardSaid : Prop := Claim7.holds Tryd.pinned (.plain (OpenSpec.upto diskKeepsSpec)) diskKeepsUptoCard

/-- THE SECOND FORM's CARD OF 'ostlerlaw13.DiskNil'. -/
def diskNilUptoCard : Claim7 := { stood := { row := diskNilUptoRow, standIns := [], harness := (true, "3ec3246fe05e82746fc2a6de5a4f18a2ee475780c7b8dc723f5be68951961fc5"), looks := true }, kinds := [], alts := [], laidByText := true, laidKinds := [.data, .pinned], laidTests := true, laidLooks := .later }
def DiskNilUptoCardSaid : Prop := Claim7.holds Tryd.pinned (.plain (OpenSpec.upto diskNilSpec)) diskNilUptoCard
end Rows
end Go.Proofs.YtkomaolfjmgppaaDoor

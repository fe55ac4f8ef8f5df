/-
  DERIVED. GIVEN WITH THE SEED: THE CARDS: each row of YtmjbfdidhakoaaaDoorRows.lean that lists a variable, with what it lists TIED to the program's text (the seventh form; the later family's looks); each row that meets fmt, with fmt's text TOLD by the authors' own Lean function (tested against real Go, not proved from fmt's source: count such statements apart). THE CARD IS WHAT COUNTS. Prove the row's statement (the work); the ties are given (YtmjbfdidhakoaaaDoorTie.lean); close each card by the builder's one call (the guide's Derived/Test/ToyasCard.lean, 'card_holds'). Laid BY PROGRAM, IN A SANDBOX (cutbox-door.mjs). By AI agents, Wed Nov 11 2026. No macro, syntax, notation, axiom, sorry.
-/
import Derived.Test.YtmjbfdidhakoaaaDoorRows
import GoSem.ClaimSeven
namespace Go.Proofs.YtmjbfdidhakoaaaDoor
namespace Rows

/-- THE TIED CARD OF 'ostlerlaw17.PathCleans'. -/
def pathCleansCard : Claim7 := { stood := { row := pathCleansRow, standIns := [], harness := (true, "d3194765daff3f5e6d70f010ac4f0b0fc54fda5969cd44415dc8a0fb50c37890"), looks := false }, kinds := [], alts := [], laidByText := true, laidKinds := [.data, .pinned], laidTests := true, laidLooks := .later }
def PathCleansCardSaid : Prop := Claim7.holds Tryd.pinned (.plain (OpenSpec.ofChange pathCleansSpec)) pathCleansCard

/-- THE TIED CARD OF 'ostlerlaw17.PathSafe'. -/
def pathSafeCard : Claim7 := { stood := { row := pathSafeRow, standIns := [], harness := (true, "d3194765daff3f5e6d70f010ac4f0b0fc54fda5969cd44415dc8a0fb50c37890"), looks := false }, kinds := [], alts := [], laidByText := true, laidKinds := [.data, .pinned], laidTests := true, laidLooks := .later }
def PathSafeCardSaid : Prop := Claim7.holds Tryd.pinned (.plain (OpenSpec.ofChange pathSafeSpec)) pathSafeCard

/-- THE TIED CARD OF 'ostlerlaw17.PathBack'. -/
def pathBackCard : Claim7 := { stood := { row := pathBackRow, standIns := [], harness := (true, "d3194765daff3f5e6d70f010ac4f0b0fc54fda5969cd44415dc8a0fb50c37890"), looks := false }, kinds := [], alts := [], laidByText := true, laidKinds := [.data, .pinned], laidTests := true, laidLooks := .later }
def PathBackCardSaid : Prop := Claim7.holds Tryd.pinned (.plain (OpenSpec.ofChange pathBackSpec)) pathBackCard

/-- THE TIED CARD OF 'ostlerlaw17.PathQuery'. -/
def pathQueryCard : Claim7 := { stood := { row := pathQueryRow, standIns := [], harness := (true, "d3194765daff3f5e6d70f010ac4f0b0fc54fda5969cd44415dc8a0fb50c37890"), looks := false }, kinds := [], alts := [], laidByText := true, laidKinds := [.data, .pinned], laidTests := true, laidLooks := .later }
def PathQueryCardSaid : Prop := Claim7.holds Tryd.pinned (.plain (OpenSpec.ofChange pathQuerySpec)) pathQueryCard

/-- THE TIED CARD OF 'ostlerlaw17.PathJoins'. -/
def pathJoinsCard : Claim7 := { stood := { row := pathJoinsRow, standIns := [], harness := (true, "d3194765daff3f5e6d70f010ac4f0b0fc54fda5969cd44415dc8a0fb50c37890"), looks := false }, kinds := [], alts := [], laidByText := true, laidKinds := [.data, .pinned], laidTests := true, laidLooks := .later }
def PathJoinsCardSaid : Prop := Claim7.holds Tryd.pinned (.plain (OpenSpec.ofChange pathJoinsSpec)) pathJoinsCard

/-- THE SECOND FORM's CARD OF 'ostlerlaw17.PathCleans'. -/
def pathCleansUptoCard : Claim7 := { stood := { row := pathCleansUptoRow, standIns := [], harness := (true, "d3194765daff3f5e6d70f010ac4f0b0fc54fda5969cd44415dc8a0fb50c37890"), looks := false }, kinds := [], alts := [], laidByText := true, laidKinds := [.data, .pinned], laidTests := true, laidLooks := .later }
def PathCleansUptoCardSaid : Prop := Claim7.holds Tryd.pinned (.plain (OpenSpec.upto pathCleansSpec)) pathCleansUptoCard

/-- THE SECOND FORM's CARD OF 'ostlerlaw17.PathSafe'. -/
def pathSafeUptoCard : Claim7 := { stood := { row := pathSafeUptoRow, standIns := [], harness := (true, "d3194765daff3f5e6d70f010ac4f0b0fc54fda5969cd44415dc8a0fb50c37890"), looks := false }, kinds := [], alts := [], laidByText := true, laidKinds := [.data, .pinned], laidTests := true, laidLooks := .later }
def PathSafeUptoCardSaid : Prop := Claim7.holds Tryd.pinned (.plain (OpenSpec.upto pathSafeSpec)) pathSafeUptoCard

/-- THE SECOND FORM's CARD OF 'ostlerlaw17.PathBack'. -/
def pathBackUptoCard : Claim7 := { stood := { row := pathBackUptoRow, standIns := [], harness := (true, "d3194765daff3f5e6d70f010ac4f0b0fc54fda5969cd44415dc8a0fb50c37890"), looks := false }, kinds := [], alts := [], laidByText := true, laidKinds := [.data, .pinned], laidTests := true, laidLooks := .later }
def PathBackUptoCardSaid : Prop := Claim7.holds Tryd.pinned (.plain (OpenSpec.upto pathBackSpec)) pathBackUptoCard

/-- THE SECOND FORM's CARD OF 'ostlerlaw17.PathQuery'. -/
def pathQueryUptoCard : Claim7 := { stood := { row := pathQueryUptoRow, standIns := [], harness := (true, "d3194765daff3f5e6d70f010ac4f0b0fc54fda5969cd44415dc8a0fb50c37890"), looks := false }, kinds := [], alts := [], laidByText := true, laidKinds := [.data, .pinned], laidTests := true, laidLooks := .later }
def PathQueryUptoCardSaid : Prop := Claim7.holds Tryd.pinned (.plain (OpenSpec.upto pathQuerySpec)) pathQueryUptoCard

/-- THE SECOND FORM's CARD OF 'ostlerlaw17.PathJoins'. -/
def pathJoinsUptoCard : Claim7 := { stood := { row := pathJoinsUptoRow, standIns := [], harness := (true, "d3194765daff3f5e6d70f010ac4f0b0fc54fda5969cd44415dc8a0fb50c37890"), looks := false }, kinds := [], alts := [], laidByText := true, laidKinds := [.data, .pinned], laidTests := true, laidLooks := .later }
def PathJoinsUptoCardSaid : Prop := Claim7.holds Tryd.pinned (.plain (OpenSpec.upto pathJoinsSpec)) pathJoinsUptoCard
end Rows
end Go.Proofs.YtmjbfdidhakoaaaDoor

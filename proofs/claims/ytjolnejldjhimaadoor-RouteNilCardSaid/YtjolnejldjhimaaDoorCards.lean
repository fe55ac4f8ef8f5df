/-
  DERIVED. GIVEN WITH THE SEED: THE CARDS: each row of YtjolnejldjhimaaDoorRows.lean that lists a variable, with what it lists TIED to the program's text (the seventh form; the later family's looks); each row that meets fmt, with fmt's text TOLD by the authors' own Lean function (tested against real Go, not proved from fmt's source: count such statements apart). THE CARD IS WHAT COUNTS. Prove the row's statement (the work); the ties are given (YtjolnejldjhimaaDoorTie.lean); close each card by the builder's one call (the guide's Derived/Test/ToyasCard.lean, 'card_holds'). Laid BY PROGRAM, IN A SANDBOX (cutbox-door.mjs). By AI agents, Wed Nov 11 2026. No macro, syntax, notation, axiom, sorry.
-/
import Derived.Test.YtjolnejldjhimaaDoorRows
import GoSem.ClaimSeven
namespace Go.Proofs.YtjolnejldjhimaaDoor
namespace Rows

/-- THE TIED CARD OF 'ostlerlaw18.RouteOrder'. -/
def routeOrderCard : Claim7 := { stood := { row := routeOrderRow, standIns := [], harness := (true, "f75a921f60eec88b9dc2092c5c7825f4c3cde267c8093b11fab7cfcbec5b1d15"), looks := true }, kinds := [], alts := [], laidByText := true, laidKinds := [.data, .pinned], laidTests := true, laidLooks := .later }
def RouteOrderCardSaid : Prop := Claim7.holds Tryd.pinned (.plain (OpenSpec.ofChange routeOrderSpec)) routeOrderCard

/-- THE TIED CARD OF 'ostlerlaw18.RouteFits'. -/
def routeFitsCard : Claim7 := { stood := { row := routeFitsRow, standIns := [], harness := (true, "f75a921f60eec88b9dc2092c5c7825f4c3cde267c8093b11fab7cfcbec5b1d15"), looks := true }, kinds := [], alts := [], laidByText := true, laidKinds := [.data, .pinned], laidTests := true, laidLooks := .later }
def RouteFitsCardSaid : Prop := Claim7.holds Tryd.pinned (.plain (OpenSpec.ofChange routeFitsSpec)) routeFitsCard

/-- THE TIED CARD OF 'ostlerlaw18.RouteNil'. -/
def routeNilCard : Claim7 := { stood := { row := routeNilRow, standIns := [], harness := (true, "f75a921f60eec88b9dc2092c5c7825f4c3cde267c8093b11fab7cfcbec5b1d15"), looks := true }, kinds := [], alts := [], laidByText := true, laidKinds := [.data, .pinned], laidTests := true, laidLooks := .later }
def RouteNilCardSaid : Prop := Claim7.holds Tryd.pinned (.plain (OpenSpec.ofChange routeNilSpec)) routeNilCard

/-- THE TIED CARD OF 'ostlerlaw18.RoutePlain'. -/
def routePlainCard : Claim7 := { stood := { row := routePlainRow, standIns := [], harness := (true, "f75a921f60eec88b9dc2092c5c7825f4c3cde267c8093b11fab7cfcbec5b1d15"), looks := true }, kinds := [], alts := [], laidByText := true, laidKinds := [.data, .pinned], laidTests := true, laidLooks := .later }
def RoutePlainCardSaid : Prop := Claim7.holds Tryd.pinned (.plain (OpenSpec.ofChange routePlainSpec)) routePlainCard

/-- THE SECOND FORM's CARD OF 'ostlerlaw18.RouteOrder'. -/
def routeOrderUptoCard : Claim7 := { stood := { row := routeOrderUptoRow, standIns := [], harness := (true, "f75a921f60eec88b9dc2092c5c7825f4c3cde267c8093b11fab7cfcbec5b1d15"), looks := true }, kinds := [], alts := [], laidByText := true, laidKinds := [.data, .pinned], laidTests := true, laidLooks := .later }
def RouteOrderUptoCardSaid : Prop := Claim7.holds Tryd.pinned (.plain (OpenSpec.upto routeOrderSpec)) routeOrderUptoCard

/-- THE SECOND FORM's CARD OF 'ostlerlaw18.RouteFits'. -/
def routeFitsUptoCard : Claim7 := { stood := { row := routeFitsUptoRow, standIns := [], harness := (true, "f75a921f60eec88b9dc2092c5c7825f4c3cde267c8093b11fab7cfcbec5b1d15"), looks := true }, kinds := [], alts := [], laidByText := true, laidKinds := [.data, .pinned], laidTests := true, laidLooks := .later }
def RouteFitsUptoCardSaid : Prop := Claim7.holds Tryd.pinned (.plain (OpenSpec.upto routeFitsSpec)) routeFitsUptoCard

/-- THE SECOND FORM's CARD OF 'ostlerlaw18.RouteNil'. -/
def routeNilUptoCard : Claim7 := { stood := { row := routeNilUptoRow, standIns := [], harness := (true, "f75a921f60eec88b9dc2092c5c7825f4c3cde267c8093b11fab7cfcbec5b1d15"), looks := true }, kinds := [], alts := [], laidByText := true, laidKinds := [.data, .pinned], laidTests := true, laidLooks := .later }
def RouteNilUptoCardSaid : Prop := Claim7.holds Tryd.pinned (.plain (OpenSpec.upto routeNilSpec)) routeNilUptoCard

/-- THE SECOND FORM's CARD OF 'ostlerlaw18.RoutePlain'. -/
def routePlainUptoCard : Claim7 := { stood := { row := routePlainUptoRow, standIns := [], harness := (true, "f75a921f60eec88b9dc2092c5c7825f4c3cde267c8093b11fab7cfcbec5b1d15"), looks := true }, kinds := [], alts := [], laidByText := true, laidKinds := [.data, .pinned], laidTests := true, laidLooks := .later }
def RoutePlainUptoCardSaid : Prop := Claim7.holds Tryd.pinned (.plain (OpenSpec.upto routePlainSpec)) routePlainUptoCard
end Rows
end Go.Proofs.YtjolnejldjhimaaDoor

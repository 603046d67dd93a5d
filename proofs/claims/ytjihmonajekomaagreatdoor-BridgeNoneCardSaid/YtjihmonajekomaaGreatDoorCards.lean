/-
  DERIVED. GIVEN WITH THE SEED: THE CARDS: each row of YtjihmonajekomaaGreatDoorRows.lean that lists a variable, with what it lists TIED to the program's text (the seventh form; the later family's looks); each row that meets fmt, with fmt's text TOLD by the authors' own Lean function (tested against real Go, not proved from fmt's source: count such statements apart). THE CARD IS WHAT COUNTS. Prove the row's statement (the work); the ties are given (YtjihmonajekomaaGreatDoorTie.lean); close each card by the builder's one call (the guide's Derived/Test/ToyasCard.lean, 'card_holds'). Laid BY PROGRAM, IN A SANDBOX (cutbox-door.mjs). By AI agents, Wed Nov 11 2026. No macro, syntax, notation, axiom, sorry.
-/
import Derived.Test.YtjihmonajekomaaGreatDoorRows
import GoSem.ClaimSeven
namespace Go.Proofs.YtjihmonajekomaaGreatDoor
namespace Rows

/-- THE TIED CARD OF 'abutmentlaw39.BridgeNone'. -/
def bridgeNoneCard : Claim7 := { stood := { row := bridgeNoneRow, standIns := [], harness := (true, "d0e05ad33adb58585c7ca094888f119bb771ce124a7fca4e85aa374745582a11"), looks := true }, kinds := [], alts := [], laidByText := true, laidKinds := [.data, .pinned], laidTests := true, laidLooks := .later }
def BridgeNoneCardSaid : Prop := Claim7.holds Tryz.pinned (.plain (OpenSpec.ofChange bridgeNoneSpec)) bridgeNoneCard

/-- THE TIED CARD OF 'abutmentlaw43.ProxyNone'. -/
def proxyNoneCard : Claim7 := { stood := { row := proxyNoneRow, standIns := [], harness := (true, "d0e05ad33adb58585c7ca094888f119bb771ce124a7fca4e85aa374745582a11"), looks := true }, kinds := [], alts := [], laidByText := true, laidKinds := [.data, .pinned], laidTests := true, laidLooks := .later }
def ProxyNoneCardSaid : Prop := Claim7.holds Tryz.pinned (.plain (OpenSpec.ofChange proxyNoneSpec)) proxyNoneCard

/-- THE TIED CARD OF 'abutmentlaw53.ShellLong'. -/
def shellLongCard : Claim7 := { stood := { row := shellLongRow, standIns := [], harness := (true, "d0e05ad33adb58585c7ca094888f119bb771ce124a7fca4e85aa374745582a11"), looks := true }, kinds := [], alts := [], laidByText := true, laidKinds := [.data, .pinned], laidTests := true, laidLooks := .later }
def ShellLongCardSaid : Prop := Claim7.holds Tryz.pinned (.plain (OpenSpec.ofChange shellLongSpec)) shellLongCard

/-- THE SECOND FORM's CARD OF 'abutmentlaw39.BridgeNone'. -/
def bridgeNoneUptoCard : Claim7 := { stood := { row := bridgeNoneUptoRow, standIns := [], harness := (true, "d0e05ad33adb58585c7ca094888f119bb771ce124a7fca4e85aa374745582a11"), looks := true }, kinds := [], alts := [], laidByText := true, laidKinds := [.data, .pinned], laidTests := true, laidLooks := .later }
def BridgeNoneUptoCardSaid : Prop := Claim7.holds Tryz.pinned (.plain (OpenSpec.upto bridgeNoneSpec)) bridgeNoneUptoCard

/-- THE SECOND FORM's CARD OF 'abutmentlaw43.ProxyNone'. -/
def proxyNoneUptoCard : Claim7 := { stood := { row := proxyNoneUptoRow, standIns := [], harness := (true, "d0e05ad33adb58585c7ca094888f119bb771ce124a7fca4e85aa374745582a11"), looks := true }, kinds := [], alts := [], laidByText := true, laidKinds := [.data, .pinned], laidTests := true, laidLooks := .later }
def ProxyNoneUptoCardSaid : Prop := Claim7.holds Tryz.pinned (.plain (OpenSpec.upto proxyNoneSpec)) proxyNoneUptoCard

/-- THE SECOND FORM's CARD OF 'abutmentlaw53.ShellLong'. -/
def shellLongUptoCard : Claim7 := { stood := { row := shellLongUptoRow, standIns := [], harness := (true, "d0e05ad33adb58585c7ca094888f119bb771ce124a7fca4e85aa374745582a11"), looks := true }, kinds := [], alts := [], laidByText := true, laidKinds := [.data, .pinned], laidTests := true, laidLooks := .later }
def ShellLongUptoCardSaid : Prop := Claim7.holds Tryz.pinned (.plain (OpenSpec.upto shellLongSpec)) shellLongUptoCard
end Rows
end Go.Proofs.YtjihmonajekomaaGreatDoor

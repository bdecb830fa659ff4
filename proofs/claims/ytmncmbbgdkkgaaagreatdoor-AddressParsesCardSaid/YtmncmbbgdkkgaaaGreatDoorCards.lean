/-
  DERIVED. GIVEN WITH THE SEED: THE CARDS: each row of YtmncmbbgdkkgaaaGreatDoorRows.lean that lists a variable, with what it lists TIED to the program's text (the seventh form; the later family's looks); each row that meets fmt, with fmt's text TOLD by the authors' own Lean function (tested against real Go, not proved from fmt's source: count such statements apart). THE CARD IS WHAT COUNTS. Prove the row's statement (the work); the ties are given (YtmncmbbgdkkgaaaGreatDoorTie.lean); close each card by the builder's one call (the guide's Derived/Test/ToyasCard.lean, 'card_holds'). Laid BY PROGRAM, IN A SANDBOX (cutbox-door.mjs). By AI agents, Wed Nov 11 2026. No macro, syntax, notation, axiom, sorry.
-/
import Derived.Test.YtmncmbbgdkkgaaaGreatDoorRows
import GoSem.ClaimSeven
namespace Go.Proofs.YtmncmbbgdkkgaaaGreatDoor
namespace Rows

/-- THE TIED CARD OF 'wharflaw09.AddressHosts'. -/
def addressHostsCard : Claim7 := { stood := { row := addressHostsRow, standIns := [], harness := (true, "823602d21c26566ad7bc95068bd588659fb3af77b46d0d678f1d217cda170c02"), looks := true }, kinds := [], alts := [], laidByText := true, laidKinds := [.data, .data, .data, .data, .sentinel, .sentinel, .pinned], laidTests := true, laidLooks := .later }
def AddressHostsCardSaid : Prop := Claim7.holds Tryz.pinned (.plain (OpenSpec.ofChange addressHostsSpec)) addressHostsCard

/-- THE TIED CARD OF 'wharflaw09.AddressBytes'. -/
def addressBytesCard : Claim7 := { stood := { row := addressBytesRow, standIns := [], harness := (true, "823602d21c26566ad7bc95068bd588659fb3af77b46d0d678f1d217cda170c02"), looks := true }, kinds := [], alts := [], laidByText := true, laidKinds := [.data, .data, .data, .data, .sentinel, .sentinel, .pinned], laidTests := true, laidLooks := .later }
def AddressBytesCardSaid : Prop := Claim7.holds Tryz.pinned (.plain (OpenSpec.ofChange addressBytesSpec)) addressBytesCard

/-- THE TIED CARD OF 'wharflaw09.AddressParses'. -/
def addressParsesCard : Claim7 := { stood := { row := addressParsesRow, standIns := [], harness := (true, "823602d21c26566ad7bc95068bd588659fb3af77b46d0d678f1d217cda170c02"), looks := true }, kinds := [], alts := [], laidByText := true, laidKinds := [.data, .data, .data, .data, .sentinel, .sentinel, .pinned], laidTests := true, laidLooks := .later }
def AddressParsesCardSaid : Prop := Claim7.holds Tryz.pinned (.plain (OpenSpec.ofChange addressParsesSpec)) addressParsesCard

/-- THE SECOND FORM's CARD OF 'wharflaw09.AddressHosts'. -/
def addressHostsUptoCard : Claim7 := { stood := { row := addressHostsUptoRow, standIns := [], harness := (true, "823602d21c26566ad7bc95068bd588659fb3af77b46d0d678f1d217cda170c02"), looks := true }, kinds := [], alts := [], laidByText := true, laidKinds := [.data, .data, .data, .data, .sentinel, .sentinel, .pinned], laidTests := true, laidLooks := .later }
def AddressHostsUptoCardSaid : Prop := Claim7.holds Tryz.pinned (.plain (OpenSpec.upto addressHostsSpec)) addressHostsUptoCard

/-- THE SECOND FORM's CARD OF 'wharflaw09.AddressBytes'. -/
def addressBytesUptoCard : Claim7 := { stood := { row := addressBytesUptoRow, standIns := [], harness := (true, "823602d21c26566ad7bc95068bd588659fb3af77b46d0d678f1d217cda170c02"), looks := true }, kinds := [], alts := [], laidByText := true, laidKinds := [.data, .data, .data, .data, .sentinel, .sentinel, .pinned], laidTests := true, laidLooks := .later }
def AddressBytesUptoCardSaid : Prop := Claim7.holds Tryz.pinned (.plain (OpenSpec.upto addressBytesSpec)) addressBytesUptoCard

/-- THE SECOND FORM's CARD OF 'wharflaw09.AddressParses'. -/
def addressParsesUptoCard : Claim7 := { stood := { row := addressParsesUptoRow, standIns := [], harness := (true, "823602d21c26566ad7bc95068bd588659fb3af77b46d0d678f1d217cda170c02"), looks := true }, kinds := [], alts := [], laidByText := true, laidKinds := [.data, .data, .data, .data, .sentinel, .sentinel, .pinned], laidTests := true, laidLooks := .later }
def AddressParsesUptoCardSaid : Prop := Claim7.holds Tryz.pinned (.plain (OpenSpec.upto addressParsesSpec)) addressParsesUptoCard
end Rows
end Go.Proofs.YtmncmbbgdkkgaaaGreatDoor

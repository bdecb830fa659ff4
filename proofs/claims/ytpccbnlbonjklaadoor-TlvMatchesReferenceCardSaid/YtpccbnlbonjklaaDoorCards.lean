/-
  DERIVED. GIVEN WITH THE SEED: THE CARDS: each row of YtpccbnlbonjklaaDoorRows.lean that lists a variable, with what it lists TIED to the program's text (the seventh form; the later family's looks); each row that meets fmt, with fmt's text TOLD by the authors' own Lean function (tested against real Go, not proved from fmt's source: count such statements apart). THE CARD IS WHAT COUNTS. Prove the row's statement (the work); the ties are given (YtpccbnlbonjklaaDoorTie.lean); close each card by the builder's one call (the guide's Derived/Test/ToyasCard.lean, 'card_holds'). Laid BY PROGRAM, IN A SANDBOX (cutbox-door.mjs). By AI agents, Wed Nov 11 2026. No macro, syntax, notation, axiom, sorry.
-/
import Derived.Test.YtpccbnlbonjklaaDoorRows
import GoSem.ClaimSeven
namespace Go.Proofs.YtpccbnlbonjklaaDoor
namespace Rows

/-- THE TIED CARD OF 'wharflaw06.TlvMatchesReference'. -/
def tlvMatchesReferenceCard : Claim7 := { stood := { row := tlvMatchesReferenceRow, standIns := [], harness := (true, "a6c52d58d16ef53c724896a389b39843f77c23b1540d8997e2a4cd7fdcf74ae4"), looks := true }, kinds := [], alts := [], laidByText := true, laidKinds := [.handle], laidTests := true, laidLooks := .later }
def TlvMatchesReferenceCardSaid : Prop := Claim7.holds Tryd.pinned (.plain (OpenSpec.ofChange tlvMatchesReferenceSpec)) tlvMatchesReferenceCard

/-- THE TIED CARD OF 'wharflaw06.TlvJoins'. -/
def tlvJoinsCard : Claim7 := { stood := { row := tlvJoinsRow, standIns := [], harness := (true, "a6c52d58d16ef53c724896a389b39843f77c23b1540d8997e2a4cd7fdcf74ae4"), looks := true }, kinds := [], alts := [], laidByText := true, laidKinds := [.handle], laidTests := true, laidLooks := .later }
def TlvJoinsCardSaid : Prop := Claim7.holds Tryd.pinned (.plain (OpenSpec.ofChange tlvJoinsSpec)) tlvJoinsCard

/-- THE TIED CARD OF 'wharflaw06.TlvFrames'. -/
def tlvFramesCard : Claim7 := { stood := { row := tlvFramesRow, standIns := [], harness := (true, "a6c52d58d16ef53c724896a389b39843f77c23b1540d8997e2a4cd7fdcf74ae4"), looks := true }, kinds := [], alts := [], laidByText := true, laidKinds := [.handle], laidTests := true, laidLooks := .later }
def TlvFramesCardSaid : Prop := Claim7.holds Tryd.pinned (.plain (OpenSpec.ofChange tlvFramesSpec)) tlvFramesCard

/-- THE SECOND FORM's CARD OF 'wharflaw06.TlvMatchesReference'. -/
def tlvMatchesReferenceUptoCard : Claim7 := { stood := { row := tlvMatchesReferenceUptoRow, standIns := [], harness := (true, "a6c52d58d16ef53c724896a389b39843f77c23b1540d8997e2a4cd7fdcf74ae4"), looks := true }, kinds := [], alts := [], laidByText := true, laidKinds := [.handle], laidTests := true, laidLooks := .later }
def TlvMatchesReferenceUptoCardSaid : Prop := Claim7.holds Tryd.pinned (.plain (OpenSpec.upto tlvMatchesReferenceSpec)) tlvMatchesReferenceUptoCard

/-- THE SECOND FORM's CARD OF 'wharflaw06.TlvJoins'. -/
def tlvJoinsUptoCard : Claim7 := { stood := { row := tlvJoinsUptoRow, standIns := [], harness := (true, "a6c52d58d16ef53c724896a389b39843f77c23b1540d8997e2a4cd7fdcf74ae4"), looks := true }, kinds := [], alts := [], laidByText := true, laidKinds := [.handle], laidTests := true, laidLooks := .later }
def TlvJoinsUptoCardSaid : Prop := Claim7.holds Tryd.pinned (.plain (OpenSpec.upto tlvJoinsSpec)) tlvJoinsUptoCard

/-- THE SECOND FORM's CARD OF 'wharflaw06.TlvFrames'. -/
def tlvFramesUptoCard : Claim7 := { stood := { row := tlvFramesUptoRow, standIns := [], harness := (true, "a6c52d58d16ef53c724896a389b39843f77c23b1540d8997e2a4cd7fdcf74ae4"), looks := true }, kinds := [], alts := [], laidByText := true, laidKinds := [.handle], laidTests := true, laidLooks := .later }
def TlvFramesUptoCardSaid : Prop := Claim7.holds Tryd.pinned (.plain (OpenSpec.upto tlvFramesSpec)) tlvFramesUptoCard
end Rows
end Go.Proofs.YtpccbnlbonjklaaDoor

/-
  DERIVED. GIVEN WITH THE SEED: THE CARDS: each row of YtoioindpmgkefaaDoorRows.lean that lists a variable, with what it lists TIED to the program's text (the seventh form; the later family's looks); each row that meets fmt, with fmt's text TOLD by the authors' own Lean function (tested against real Go, not proved from fmt's source: count such statements apart). THE CARD IS WHAT COUNTS. Prove the row's statement (the work); the ties are given (YtoioindpmgkefaaDoorTie.lean); close each card by the builder's one call (the guide's Derived/Test/ToyasCard.lean, 'card_holds'). Laid BY PROGRAM, IN A SANDBOX (cutbox-door.mjs). By AI agents, Wed Nov 11 2026. No macro, syntax, notation, axiom, sorry.
-/
import Derived.Test.YtoioindpmgkefaaDoorRows
import GoSem.ClaimSeven
namespace Go.Proofs.YtoioindpmgkefaaDoor
namespace Rows

/-- THE TIED CARD OF 'wharflaw11.KindTypes'. -/
def kindTypesCard : Claim7 := { stood := { row := kindTypesRow, standIns := [], harness := (true, "959528b580a7eff09dfdabab8d6b496e815835d9b95d0e0be1216aefc6fc5234"), looks := false }, kinds := [], alts := [], laidByText := true, laidKinds := [.widerDeep, .data], laidTests := true, laidLooks := .later }
def KindTypesCardSaid : Prop := Claim7.holds Tryd.pinned (.plain (OpenSpec.ofChange kindTypesSpec)) kindTypesCard

/-- THE TIED CARD OF 'wharflaw11.KindFits'. -/
def kindFitsCard : Claim7 := { stood := { row := kindFitsRow, standIns := [], harness := (true, "959528b580a7eff09dfdabab8d6b496e815835d9b95d0e0be1216aefc6fc5234"), looks := false }, kinds := [], alts := [], laidByText := true, laidKinds := [.widerDeep, .data], laidTests := true, laidLooks := .later }
def KindFitsCardSaid : Prop := Claim7.holds Tryd.pinned (.plain (OpenSpec.ofChange kindFitsSpec)) kindFitsCard

/-- THE TIED CARD OF 'wharflaw11.KindInside'. -/
def kindInsideCard : Claim7 := { stood := { row := kindInsideRow, standIns := [], harness := (true, "959528b580a7eff09dfdabab8d6b496e815835d9b95d0e0be1216aefc6fc5234"), looks := false }, kinds := [], alts := [], laidByText := true, laidKinds := [.widerDeep, .data], laidTests := true, laidLooks := .later }
def KindInsideCardSaid : Prop := Claim7.holds Tryd.pinned (.plain (OpenSpec.ofChange kindInsideSpec)) kindInsideCard

/-- THE TIED CARD OF 'wharflaw11.KindMatchesReference'. -/
def kindMatchesReferenceCard : Claim7 := { stood := { row := kindMatchesReferenceRow, standIns := [], harness := (true, "959528b580a7eff09dfdabab8d6b496e815835d9b95d0e0be1216aefc6fc5234"), looks := false }, kinds := [], alts := [], laidByText := true, laidKinds := [.widerDeep, .data], laidTests := true, laidLooks := .later }
def KindMatchesReferenceCardSaid : Prop := Claim7.holds Tryd.pinned (.plain (OpenSpec.ofChange kindMatchesReferenceSpec)) kindMatchesReferenceCard

/-- THE TIED CARD OF 'wharflaw11.KindNames'. -/
def kindNamesCard : Claim7 := { stood := { row := kindNamesRow, standIns := [], harness := (true, "959528b580a7eff09dfdabab8d6b496e815835d9b95d0e0be1216aefc6fc5234"), looks := false }, kinds := [], alts := [], laidByText := true, laidKinds := [.widerDeep, .data], laidTests := true, laidLooks := .later }
def KindNamesCardSaid : Prop := Claim7.holds Tryd.pinned (.plain (OpenSpec.ofChange kindNamesSpec)) kindNamesCard

/-- THE SECOND FORM's CARD OF 'wharflaw11.KindTypes'. -/
def kindTypesUptoCard : Claim7 := { stood := { row := kindTypesUptoRow, standIns := [], harness := (true, "959528b580a7eff09dfdabab8d6b496e815835d9b95d0e0be1216aefc6fc5234"), looks := false }, kinds := [], alts := [], laidByText := true, laidKinds := [.widerDeep, .data], laidTests := true, laidLooks := .later }
def KindTypesUptoCardSaid : Prop := Claim7.holds Tryd.pinned (.plain (OpenSpec.upto kindTypesSpec)) kindTypesUptoCard

/-- THE SECOND FORM's CARD OF 'wharflaw11.KindFits'. -/
def kindFitsUptoCard : Claim7 := { stood := { row := kindFitsUptoRow, standIns := [], harness := (true, "959528b580a7eff09dfdabab8d6b496e815835d9b95d0e0be1216aefc6fc5234"), looks := false }, kinds := [], alts := [], laidByText := true, laidKinds := [.widerDeep, .data], laidTests := true, laidLooks := .later }
def KindFitsUptoCardSaid : Prop := Claim7.holds Tryd.pinned (.plain (OpenSpec.upto kindFitsSpec)) kindFitsUptoCard

/-- THE SECOND FORM's CARD OF 'wharflaw11.KindInside'. -/
def kindInsideUptoCard : Claim7 := { stood := { row := kindInsideUptoRow, standIns := [], harness := (true, "959528b580a7eff09dfdabab8d6b496e815835d9b95d0e0be1216aefc6fc5234"), looks := false }, kinds := [], alts := [], laidByText := true, laidKinds := [.widerDeep, .data], laidTests := true, laidLooks := .later }
def KindInsideUptoCardSaid : Prop := Claim7.holds Tryd.pinned (.plain (OpenSpec.upto kindInsideSpec)) kindInsideUptoCard

/-- THE SECOND FORM's CARD OF 'wharflaw11.KindMatchesReference'. -/
def kindMatchesReferenceUptoCard : Claim7 := { stood := { row := kindMatchesReferenceUptoRow, standIns := [], harness := (true, "959528b580a7eff09dfdabab8d6b496e815835d9b95d0e0be1216aefc6fc5234"), looks := false }, kinds := [], alts := [], laidByText := true, laidKinds := [.widerDeep, .data], laidTests := true, laidLooks := .later }
def KindMatchesReferenceUptoCardSaid : Prop := Claim7.holds Tryd.pinned (.plain (OpenSpec.upto kindMatchesReferenceSpec)) kindMatchesReferenceUptoCard

/-- THE SECOND FORM's CARD OF 'wharflaw11.KindNames'. -/
def kindNamesUptoCard : Claim7 := { stood := { row := kindNamesUptoRow, standIns := [], harness := (true, "959528b580a7eff09dfdabab8d6b496e815835d9b95d0e0be1216aefc6fc5234"), looks := false }, kinds := [], alts := [], laidByText := true, laidKinds := [.widerDeep, .data], laidTests := true, laidLooks := .later }
def KindNamesUptoCardSaid : Prop := Claim7.holds Tryd.pinned (.plain (OpenSpec.upto kindNamesSpec)) kindNamesUptoCard
end Rows
end Go.Proofs.YtoioindpmgkefaaDoor

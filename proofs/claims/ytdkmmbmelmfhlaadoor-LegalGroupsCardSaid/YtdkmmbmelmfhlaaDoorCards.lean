/-
  DERIVED. GIVEN WITH THE SEED: THE CARDS: each row of YtdkmmbmelmfhlaaDoorRows.lean that lists a variable, with what it lists TIED to the program's text (the seventh form; the later family's looks); each row that meets fmt, with fmt's text TOLD by the authors' own Lean function (tested against real Go, not proved from fmt's source: count such statements apart). THE CARD IS WHAT COUNTS. Prove the row's statement (the work); the ties are given (YtdkmmbmelmfhlaaDoorTie.lean); close each card by the builder's one call (the guide's Derived/Test/ToyasCard.lean, 'card_holds'). Laid BY PROGRAM, IN A SANDBOX (cutbox-door.mjs). By AI agents, Wed Nov 11 2026. No macro, syntax, notation, axiom, sorry.
-/
import Derived.Test.YtdkmmbmelmfhlaaDoorRows
import GoSem.ClaimSeven
namespace Go.Proofs.YtdkmmbmelmfhlaaDoor
namespace Rows

/-- THE TIED CARD OF 'wharflaw21.LegalMatchesReference'. -/
def legalMatchesReferenceCard : Claim7 := { stood := { row := legalMatchesReferenceRow, standIns := [], harness := (true, "6b338306cdf89f2fe72d382d9d9c221fc8987a05f83eb18ed1b2a8f0faaffa91"), looks := false }, kinds := [], alts := [], laidByText := true, laidKinds := [.widerDeep], laidTests := true, laidLooks := .later }
def LegalMatchesReferenceCardSaid : Prop := Claim7.holds Tryd.pinned (.plain (OpenSpec.ofChange legalMatchesReferenceSpec)) legalMatchesReferenceCard

/-- THE TIED CARD OF 'wharflaw21.LegalBegins'. -/
def legalBeginsCard : Claim7 := { stood := { row := legalBeginsRow, standIns := [], harness := (true, "6b338306cdf89f2fe72d382d9d9c221fc8987a05f83eb18ed1b2a8f0faaffa91"), looks := false }, kinds := [], alts := [], laidByText := true, laidKinds := [.widerDeep], laidTests := true, laidLooks := .later }
def LegalBeginsCardSaid : Prop := Claim7.holds Tryd.pinned (.plain (OpenSpec.ofChange legalBeginsSpec)) legalBeginsCard

/-- THE TIED CARD OF 'wharflaw21.LegalGroups'. -/
def legalGroupsCard : Claim7 := { stood := { row := legalGroupsRow, standIns := [], harness := (true, "6b338306cdf89f2fe72d382d9d9c221fc8987a05f83eb18ed1b2a8f0faaffa91"), looks := false }, kinds := [], alts := [], laidByText := true, laidKinds := [.widerDeep], laidTests := true, laidLooks := .later }
def LegalGroupsCardSaid : Prop := Claim7.holds Tryd.pinned (.plain (OpenSpec.ofChange legalGroupsSpec)) legalGroupsCard

/-- THE TIED CARD OF 'wharflaw21.LegalAlone'. -/
def legalAloneCard : Claim7 := { stood := { row := legalAloneRow, standIns := [], harness := (true, "6b338306cdf89f2fe72d382d9d9c221fc8987a05f83eb18ed1b2a8f0faaffa91"), looks := false }, kinds := [], alts := [], laidByText := true, laidKinds := [.widerDeep], laidTests := true, laidLooks := .later }
def LegalAloneCardSaid : Prop := Claim7.holds Tryd.pinned (.plain (OpenSpec.ofChange legalAloneSpec)) legalAloneCard

/-- THE SECOND FORM's CARD OF 'wharflaw21.LegalMatchesReference'. -/
def legalMatchesReferenceUptoCard : Claim7 := { stood := { row := legalMatchesReferenceUptoRow, standIns := [], harness := (true, "6b338306cdf89f2fe72d382d9d9c221fc8987a05f83eb18ed1b2a8f0faaffa91"), looks := false }, kinds := [], alts := [], laidByText := true, laidKinds := [.widerDeep], laidTests := true, laidLooks := .later }
def LegalMatchesReferenceUptoCardSaid : Prop := Claim7.holds Tryd.pinned (.plain (OpenSpec.upto legalMatchesReferenceSpec)) legalMatchesReferenceUptoCard

/-- THE SECOND FORM's CARD OF 'wharflaw21.LegalBegins'. -/
def legalBeginsUptoCard : Claim7 := { stood := { row := legalBeginsUptoRow, standIns := [], harness := (true, "6b338306cdf89f2fe72d382d9d9c221fc8987a05f83eb18ed1b2a8f0faaffa91"), looks := false }, kinds := [], alts := [], laidByText := true, laidKinds := [.widerDeep], laidTests := true, laidLooks := .later }
def LegalBeginsUptoCardSaid : Prop := Claim7.holds Tryd.pinned (.plain (OpenSpec.upto legalBeginsSpec)) legalBeginsUptoCard

/-- THE SECOND FORM's CARD OF 'wharflaw21.LegalGroups'. -/
def legalGroupsUptoCard : Claim7 := { stood := { row := legalGroupsUptoRow, standIns := [], harness := (true, "6b338306cdf89f2fe72d382d9d9c221fc8987a05f83eb18ed1b2a8f0faaffa91"), looks := false }, kinds := [], alts := [], laidByText := true, laidKinds := [.widerDeep], laidTests := true, laidLooks := .later }
def LegalGroupsUptoCardSaid : Prop := Claim7.holds Tryd.pinned (.plain (OpenSpec.upto legalGroupsSpec)) legalGroupsUptoCard

/-- THE SECOND FORM's CARD OF 'wharflaw21.LegalAlone'. -/
def legalAloneUptoCard : Claim7 := { stood := { row := legalAloneUptoRow, standIns := [], harness := (true, "6b338306cdf89f2fe72d382d9d9c221fc8987a05f83eb18ed1b2a8f0faaffa91"), looks := false }, kinds := [], alts := [], laidByText := true, laidKinds := [.widerDeep], laidTests := true, laidLooks := .later }
def LegalAloneUptoCardSaid : Prop := Claim7.holds Tryd.pinned (.plain (OpenSpec.upto legalAloneSpec)) legalAloneUptoCard
end Rows
end Go.Proofs.YtdkmmbmelmfhlaaDoor

/-
  NARROWER THAN 'FOR EVERY INPUT', by the rows' own cells (each row's printed sentence says how): LegalMatchesReference: laid · LegalBegins: laid · LegalGroups: laid · LegalAlone: laid.
  DERIVED. THE GIVEN ROWS OF THIS SEAT. 4 by the template 'for every input the law returns true; each argument reads behind the call as it read before'; 0 by the template 'total and deterministic' (their statements: YtdkmmbmelmfhlaaDoorTotals.lean).
  GIVEN WITH THE SEED: the statements are not yours to turn. If you find one false, say at which input.
  Laid BY PROGRAM, IN A SANDBOX (cutbox-rows.mjs): the forced cells as the released guide's own fill.sh prints them over the translation 11d5d35994434fd5… (all of the seat's roots in one cut). By AI agents, Wed Nov 11 2026. No macro, syntax, notation, axiom, sorry.
-/
import Derived.Test.YtdkmmbmelmfhlaaDoorChecked
import GoSem.Claim
import GoSem.ClaimJoined
import GoSem.ClaimMapViews
import Derived.JoinedTies
import Derived.KernelRfl
namespace Go.Proofs.YtdkmmbmelmfhlaaDoor
/- THE CELL 'sum', in the pinned program and in every row, IS THE sha256 OF THE DUMP (.gsa) THAT YtdkmmbmelmfhlaaDoorProg.lean LOADS. Nothing in Lean hashes anything: it is a label: what it is worth is what the hold of that sum in a sandbox is worth. -/
noncomputable def Tryd.pinned : Pinned := { name := "ytdkmmbmelmfhlaadoor", sum := "11d5d35994434fd5689bfba31c982a9509b91afbd702a945efb9f71e2d1e3f11", checked := Tryd.checked }
namespace Rows
def none {H : Type} : Left H := { results := [], args := [] }

/- WHAT THE LISTED PACKAGE-LEVEL VARIABLES READ AS WHEN THE CALL BEGINS. Each datum BY PROGRAM (the guide's laid-datum.mjs) off the statement by which the dump's own 'gosem.cut.vars' lays the variable. In a bare row this is a premise. The card (YtdkmmbmelmfhlaaDoorCards.lean) ties it to the program's text. -/
def laid_wharf_legal_alone {H : Type} : DataW H := .agg [.lit (.int .u8 1), .lit (.int .u8 2), .lit (.int .u8 14)]

/-- 'wharflaw21.LegalMatchesReference': WHATEVER THE INPUT: true; the input reads as it did. -/
def legalMatchesReferenceSpec : ChangeSpec := { name := "legalMatchesReference", fn := fun _ => fun
  | [d1, d2] => { results := [.lit (.bool true)], args := [d1, d2] }
  | _ => none }
def legalMatchesReferenceRow : OpenClaim := { program := "ytdkmmbmelmfhlaadoor", sum := "11d5d35994434fd5689bfba31c982a9509b91afbd702a945efb9f71e2d1e3f11", func := "wharf/wharflaw21.LegalMatchesReference", spec := "legalMatchesReference", unfollowed := true, recurses := true, named := ["wharf/legal.alone"], apart := false, laid := [("wharf/legal.alone", laid_wharf_legal_alone)] }
def LegalMatchesReferenceSaid : Prop := legalMatchesReferenceRow.holds Tryd.pinned (OpenSpec.ofChange legalMatchesReferenceSpec)

/-- ITS FALSE NEIGHBOUR: 'it returns false'. Refute it at one input. -/
def legalMatchesReferenceWrong : ChangeSpec := { name := "legalMatchesReference", fn := fun _ => fun
  | [d1, d2] => { results := [.lit (.bool false)], args := [d1, d2] }
  | _ => none }
def LegalMatchesReferenceWrongFalsely : Prop := legalMatchesReferenceRow.holds Tryd.pinned (OpenSpec.ofChange legalMatchesReferenceWrong)

/-- 'wharflaw21.LegalBegins': WHATEVER THE INPUT: true; the input reads as it did. -/
def legalBeginsSpec : ChangeSpec := { name := "legalBegins", fn := fun _ => fun
  | [d1, d2, d3] => { results := [.lit (.bool true)], args := [d1, d2, d3] }
  | _ => none }
def legalBeginsRow : OpenClaim := { program := "ytdkmmbmelmfhlaadoor", sum := "11d5d35994434fd5689bfba31c982a9509b91afbd702a945efb9f71e2d1e3f11", func := "wharf/wharflaw21.LegalBegins", spec := "legalBegins", unfollowed := true, recurses := true, named := ["wharf/legal.alone"], apart := false, laid := [("wharf/legal.alone", laid_wharf_legal_alone)] }
def LegalBeginsSaid : Prop := legalBeginsRow.holds Tryd.pinned (OpenSpec.ofChange legalBeginsSpec)

/-- ITS FALSE NEIGHBOUR: 'it returns false'. Refute it at one input. -/
def legalBeginsWrong : ChangeSpec := { name := "legalBegins", fn := fun _ => fun
  | [d1, d2, d3] => { results := [.lit (.bool false)], args := [d1, d2, d3] }
  | _ => none }
def LegalBeginsWrongFalsely : Prop := legalBeginsRow.holds Tryd.pinned (OpenSpec.ofChange legalBeginsWrong)

/-- 'wharflaw21.LegalGroups': WHATEVER THE INPUT: true; the input reads as it did. -/
def legalGroupsSpec : ChangeSpec := { name := "legalGroups", fn := fun _ => fun
  | [d] => { results := [.lit (.bool true)], args := [d] }
  | _ => none }
def legalGroupsRow : OpenClaim := { program := "ytdkmmbmelmfhlaadoor", sum := "11d5d35994434fd5689bfba31c982a9509b91afbd702a945efb9f71e2d1e3f11", func := "wharf/wharflaw21.LegalGroups", spec := "legalGroups", unfollowed := true, recurses := true, named := ["wharf/legal.alone"], apart := false, laid := [("wharf/legal.alone", laid_wharf_legal_alone)] }
def LegalGroupsSaid : Prop := legalGroupsRow.holds Tryd.pinned (OpenSpec.ofChange legalGroupsSpec)

/-- ITS FALSE NEIGHBOUR: 'it returns false'. Refute it at one input. -/
def legalGroupsWrong : ChangeSpec := { name := "legalGroups", fn := fun _ => fun
  | [d] => { results := [.lit (.bool false)], args := [d] }
  | _ => none }
def LegalGroupsWrongFalsely : Prop := legalGroupsRow.holds Tryd.pinned (OpenSpec.ofChange legalGroupsWrong)

/-- 'wharflaw21.LegalAlone': WHATEVER THE INPUT: true; the input reads as it did. -/
def legalAloneSpec : ChangeSpec := { name := "legalAlone", fn := fun _ => fun
  | [d1, d2] => { results := [.lit (.bool true)], args := [d1, d2] }
  | _ => none }
def legalAloneRow : OpenClaim := { program := "ytdkmmbmelmfhlaadoor", sum := "11d5d35994434fd5689bfba31c982a9509b91afbd702a945efb9f71e2d1e3f11", func := "wharf/wharflaw21.LegalAlone", spec := "legalAlone", unfollowed := true, recurses := true, named := ["wharf/legal.alone"], apart := false, laid := [("wharf/legal.alone", laid_wharf_legal_alone)] }
def LegalAloneSaid : Prop := legalAloneRow.holds Tryd.pinned (OpenSpec.ofChange legalAloneSpec)

/-- ITS FALSE NEIGHBOUR: 'it returns false'. Refute it at one input. -/
def legalAloneWrong : ChangeSpec := { name := "legalAlone", fn := fun _ => fun
  | [d1, d2] => { results := [.lit (.bool false)], args := [d1, d2] }
  | _ => none }
def LegalAloneWrongFalsely : Prop := legalAloneRow.holds Tryd.pinned (OpenSpec.ofChange legalAloneWrong)

/- THE SECOND FORM. 'bulk': how many values and letters a reading holds, each counted each time it is reached (what is shared counts as often as it is met; a slice's spare places count too). A statement '..UptoSaid' is the law's where the arguments, and the package variables that the reading takes, are together of bulk at most 1048576: NARROWER than '..Said'. Prove '..Said' where nothing that the law and all that it calls make is longer than what came in: it says more and counts as full. Else prove '..UptoSaid'. A law counts once. -/
mutual
def uptoBulk {H : Type} : DataW H → Nat
  | .lit (.string bytes) => bytes.length + 1
  | .lit _ => 1
  | .nil => 1
  | .ptr d => uptoBulk d + 1
  | .slice elems spare => uptoBulkAll elems + uptoBulkAll spare + 1
  | .agg parts => uptoBulkAll parts + 1
  | .iface _ d => uptoBulk d + 1
  | .map entries => uptoBulkEntries entries + 1
  | .held _ => 1
def uptoBulkAll {H : Type} : List (DataW H) → Nat
  | [] => 0
  | d :: r => uptoBulk d + uptoBulkAll r
def uptoBulkEntries {H : Type} : List (Lit × DataW H) → Nat
  | [] => 0
  | x :: r => uptoBulkEntry x + uptoBulkEntries r
def uptoBulkEntry {H : Type} : Lit × DataW H → Nat
  | (.string bytes, d) => bytes.length + uptoBulk d + 1
  | (_, d) => uptoBulk d + 1
 end
def uptoSmall : (H : Type) → List (DataW H) → Bool := fun _ ds => decide (uptoBulkAll ds ≤ 1048576)
def OpenSpec.upto (s : _root_.Go.ChangeSpec) : _root_.Go.OpenSpec := { _root_.Go.OpenSpec.ofChange s with cond := some uptoSmall }

/-- 'wharflaw21.LegalMatchesReference', WHERE WHAT IT READS IS OF BULK AT MOST 1048576: true; the input reads as it did. -/
def legalMatchesReferenceUptoRow : OpenClaim := { program := "ytdkmmbmelmfhlaadoor", sum := "11d5d35994434fd5689bfba31c982a9509b91afbd702a945efb9f71e2d1e3f11", func := "wharf/wharflaw21.LegalMatchesReference", spec := "legalMatchesReference", unfollowed := true, recurses := true, named := ["wharf/legal.alone"], apart := false, laid := [("wharf/legal.alone", laid_wharf_legal_alone)], narrowed := true }
def LegalMatchesReferenceUptoSaid : Prop := legalMatchesReferenceUptoRow.holds Tryd.pinned (OpenSpec.upto legalMatchesReferenceSpec)

/-- 'wharflaw21.LegalBegins', WHERE WHAT IT READS IS OF BULK AT MOST 1048576: true; the input reads as it did. -/
def legalBeginsUptoRow : OpenClaim := { program := "ytdkmmbmelmfhlaadoor", sum := "11d5d35994434fd5689bfba31c982a9509b91afbd702a945efb9f71e2d1e3f11", func := "wharf/wharflaw21.LegalBegins", spec := "legalBegins", unfollowed := true, recurses := true, named := ["wharf/legal.alone"], apart := false, laid := [("wharf/legal.alone", laid_wharf_legal_alone)], narrowed := true }
def LegalBeginsUptoSaid : Prop := legalBeginsUptoRow.holds Tryd.pinned (OpenSpec.upto legalBeginsSpec)

/-- 'wharflaw21.LegalGroups', WHERE WHAT IT READS IS OF BULK AT MOST 1048576: true; the input reads as it did. -/
def legalGroupsUptoRow : OpenClaim := { program := "ytdkmmbmelmfhlaadoor", sum := "11d5d35994434fd5689bfba31c982a9509b91afbd702a945efb9f71e2d1e3f11", func := "wharf/wharflaw21.LegalGroups", spec := "legalGroups", unfollowed := true, recurses := true, named := ["wharf/legal.alone"], apart := false, laid := [("wharf/legal.alone", laid_wharf_legal_alone)], narrowed := true }
def LegalGroupsUptoSaid : Prop := legalGroupsUptoRow.holds Tryd.pinned (OpenSpec.upto legalGroupsSpec)

/-- 'wharflaw21.LegalAlone', WHERE WHAT IT READS IS OF BULK AT MOST 1048576: true; the input reads as it did. -/
def legalAloneUptoRow : OpenClaim := { program := "ytdkmmbmelmfhlaadoor", sum := "11d5d35994434fd5689bfba31c982a9509b91afbd702a945efb9f71e2d1e3f11", func := "wharf/wharflaw21.LegalAlone", spec := "legalAlone", unfollowed := true, recurses := true, named := ["wharf/legal.alone"], apart := false, laid := [("wharf/legal.alone", laid_wharf_legal_alone)], narrowed := true }
def LegalAloneUptoSaid : Prop := legalAloneUptoRow.holds Tryd.pinned (OpenSpec.upto legalAloneSpec)

end Rows
end Go.Proofs.YtdkmmbmelmfhlaaDoor

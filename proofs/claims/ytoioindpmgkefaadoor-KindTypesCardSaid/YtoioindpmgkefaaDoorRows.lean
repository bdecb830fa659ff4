/-
  NARROWER THAN 'FOR EVERY INPUT', by the rows' own cells (each row's printed sentence says how): KindTypes: laid · KindFits: laid · KindInside: laid · KindMatchesReference: laid · KindNames: laid.
  DERIVED. THE GIVEN ROWS OF THIS SEAT. 5 by the template 'for every input the law returns true; each argument reads behind the call as it read before'; 0 by the template 'total and deterministic' (their statements: YtoioindpmgkefaaDoorTotals.lean).
  GIVEN WITH THE SEED: the statements are not yours to turn. If you find one false, say at which input.
  Laid BY PROGRAM, IN A SANDBOX (cutbox-rows.mjs): the forced cells as the released guide's own fill.sh prints them over the translation 75459043ee0976ef… (all of the seat's roots in one cut). By AI agents, Wed Nov 11 2026. No macro, syntax, notation, axiom, sorry.
-/
import Derived.Test.YtoioindpmgkefaaDoorChecked
import GoSem.Claim
import GoSem.ClaimJoined
import GoSem.ClaimMapViews
import Derived.JoinedTies
import Derived.KernelRfl
namespace Go.Proofs.YtoioindpmgkefaaDoor
/- THE CELL 'sum', in the pinned program and in every row, IS THE sha256 OF THE DUMP (.gsa) THAT YtoioindpmgkefaaDoorProg.lean LOADS. Nothing in Lean hashes anything: it is a label: what it is worth is what the hold of that sum in a sandbox is worth. -/
noncomputable def Tryd.pinned : Pinned := { name := "ytoioindpmgkefaadoor", sum := "75459043ee0976ef1111d1e8bd3a8582dc6e76aea97467cc446ebd8d26100908", checked := Tryd.checked }
namespace Rows
def none {H : Type} : Left H := { results := [], args := [] }

/- WHAT THE LISTED PACKAGE-LEVEL VARIABLES READ AS WHEN THE CALL BEGINS. Each datum BY PROGRAM (the guide's laid-datum.mjs) off the statement by which the dump's own 'gosem.cut.vars' lays the variable. In a bare row this is a premise. The card (YtoioindpmgkefaaDoorCards.lean) ties it to the program's text. -/
def laid_wharf_kind_table {H : Type} : DataW H := .agg [.agg [.lit (.int .u8 0), .lit (.string [100, 97, 116, 97]), .lit (.int .u8 15), .lit (.int .i64 13), .lit (.int .i64 65531), .lit (.int .i64 1), .lit (.int .i64 0)], .agg [.lit (.int .u8 1), .lit (.string [105, 110, 105, 116]), .lit (.int .u8 0), .lit (.int .i64 16), .lit (.int .i64 16), .lit (.int .i64 1), .lit (.int .i64 2)], .agg [.lit (.int .u8 2), .lit (.string [105, 110, 105, 116, 45, 97, 99, 107]), .lit (.int .u8 0), .lit (.int .i64 16), .lit (.int .i64 16), .lit (.int .i64 1), .lit (.int .i64 2)], .agg [.lit (.int .u8 3), .lit (.string [115, 97, 99, 107]), .lit (.int .u8 0), .lit (.int .i64 12), .lit (.int .i64 65531), .lit (.int .i64 4), .lit (.int .i64 0)], .agg [.lit (.int .u8 4), .lit (.string [104, 101, 97, 114, 116, 98, 101, 97, 116]), .lit (.int .u8 0), .lit (.int .i64 0), .lit (.int .i64 0), .lit (.int .i64 1), .lit (.int .i64 1)], .agg [.lit (.int .u8 5), .lit (.string [104, 101, 97, 114, 116, 98, 101, 97, 116, 45, 97, 99, 107]), .lit (.int .u8 0), .lit (.int .i64 0), .lit (.int .i64 0), .lit (.int .i64 1), .lit (.int .i64 1)], .agg [.lit (.int .u8 6), .lit (.string [97, 98, 111, 114, 116]), .lit (.int .u8 1), .lit (.int .i64 0), .lit (.int .i64 0), .lit (.int .i64 1), .lit (.int .i64 3)], .agg [.lit (.int .u8 7), .lit (.string [115, 104, 117, 116, 100, 111, 119, 110]), .lit (.int .u8 0), .lit (.int .i64 4), .lit (.int .i64 4), .lit (.int .i64 1), .lit (.int .i64 0)], .agg [.lit (.int .u8 8), .lit (.string [115, 104, 117, 116, 100, 111, 119, 110, 45, 97, 99, 107]), .lit (.int .u8 0), .lit (.int .i64 0), .lit (.int .i64 0), .lit (.int .i64 1), .lit (.int .i64 0)], .agg [.lit (.int .u8 9), .lit (.string [101, 114, 114, 111, 114]), .lit (.int .u8 0), .lit (.int .i64 0), .lit (.int .i64 0), .lit (.int .i64 1), .lit (.int .i64 4)], .agg [.lit (.int .u8 10), .lit (.string [99, 111, 111, 107, 105, 101, 45, 101, 99, 104, 111]), .lit (.int .u8 0), .lit (.int .i64 1), .lit (.int .i64 65531), .lit (.int .i64 1), .lit (.int .i64 0)], .agg [.lit (.int .u8 11), .lit (.string [99, 111, 111, 107, 105, 101, 45, 97, 99, 107]), .lit (.int .u8 0), .lit (.int .i64 0), .lit (.int .i64 0), .lit (.int .i64 1), .lit (.int .i64 0)], .agg [.lit (.int .u8 12), .lit (.string [101, 99, 110, 101]), .lit (.int .u8 0), .lit (.int .i64 4), .lit (.int .i64 4), .lit (.int .i64 1), .lit (.int .i64 0)], .agg [.lit (.int .u8 13), .lit (.string [99, 119, 114]), .lit (.int .u8 0), .lit (.int .i64 4), .lit (.int .i64 4), .lit (.int .i64 1), .lit (.int .i64 0)], .agg [.lit (.int .u8 14), .lit (.string [115, 104, 117, 116, 100, 111, 119, 110, 45, 99, 111, 109, 112, 108, 101, 116, 101]), .lit (.int .u8 1), .lit (.int .i64 0), .lit (.int .i64 0), .lit (.int .i64 1), .lit (.int .i64 0)], .agg [.lit (.int .u8 15), .lit (.string [97, 117, 116, 104]), .lit (.int .u8 0), .lit (.int .i64 5), .lit (.int .i64 65531), .lit (.int .i64 1), .lit (.int .i64 0)], .agg [.lit (.int .u8 64), .lit (.string [105, 45, 100, 97, 116, 97]), .lit (.int .u8 15), .lit (.int .i64 17), .lit (.int .i64 65531), .lit (.int .i64 1), .lit (.int .i64 0)], .agg [.lit (.int .u8 128), .lit (.string [97, 115, 99, 111, 110, 102, 45, 97, 99, 107]), .lit (.int .u8 0), .lit (.int .i64 4), .lit (.int .i64 4), .lit (.int .i64 1), .lit (.int .i64 2)], .agg [.lit (.int .u8 130), .lit (.string [114, 101, 45, 99, 111, 110, 102, 105, 103]), .lit (.int .u8 0), .lit (.int .i64 0), .lit (.int .i64 0), .lit (.int .i64 1), .lit (.int .i64 5)], .agg [.lit (.int .u8 132), .lit (.string [112, 97, 100]), .lit (.int .u8 0), .lit (.int .i64 0), .lit (.int .i64 65531), .lit (.int .i64 1), .lit (.int .i64 0)], .agg [.lit (.int .u8 192), .lit (.string [102, 111, 114, 119, 97, 114, 100, 45, 116, 115, 110]), .lit (.int .u8 0), .lit (.int .i64 4), .lit (.int .i64 65531), .lit (.int .i64 4), .lit (.int .i64 0)], .agg [.lit (.int .u8 193), .lit (.string [97, 115, 99, 111, 110, 102]), .lit (.int .u8 0), .lit (.int .i64 4), .lit (.int .i64 4), .lit (.int .i64 1), .lit (.int .i64 6)], .agg [.lit (.int .u8 194), .lit (.string [105, 45, 102, 111, 114, 119, 97, 114, 100, 45, 116, 115, 110]), .lit (.int .u8 0), .lit (.int .i64 4), .lit (.int .i64 65531), .lit (.int .i64 8), .lit (.int .i64 0)]]
def laid_wharf_kind_inside {H : Type} : DataW H := .agg [.agg [.lit (.int .i64 0), .lit (.int .i64 0), .lit (.int .i64 0)], .agg [.lit (.int .i64 1), .lit (.int .i64 1), .lit (.int .i64 1)], .agg [.lit (.int .i64 1), .lit (.int .i64 0), .lit (.int .i64 16384)], .agg [.lit (.int .i64 2), .lit (.int .i64 0), .lit (.int .i64 16384)], .agg [.lit (.int .i64 2), .lit (.int .i64 1), .lit (.int .i64 16384)], .agg [.lit (.int .i64 1), .lit (.int .i64 1), .lit (.int .i64 2)], .agg [.lit (.int .i64 1), .lit (.int .i64 2), .lit (.int .i64 16384)]]

/-- 'wharflaw11.KindTypes': WHATEVER THE INPUT: true; the input reads as it did. -/
def kindTypesSpec : ChangeSpec := { name := "kindTypes", fn := fun _ => fun
  | [d] => { results := [.lit (.bool true)], args := [d] }
  | _ => none }
def kindTypesRow : OpenClaim := { program := "ytoioindpmgkefaadoor", sum := "75459043ee0976ef1111d1e8bd3a8582dc6e76aea97467cc446ebd8d26100908", func := "wharf/wharflaw11.KindTypes", spec := "kindTypes", unfollowed := true, recurses := true, named := ["wharf/kind.table", "wharf/kind.inside"], apart := false, laid := [("wharf/kind.table", laid_wharf_kind_table), ("wharf/kind.inside", laid_wharf_kind_inside)] }
def KindTypesSaid : Prop := kindTypesRow.holds Tryd.pinned (OpenSpec.ofChange kindTypesSpec)

/-- ITS FALSE NEIGHBOUR: 'it returns false'. Refute it at one input. -/
def kindTypesWrong : ChangeSpec := { name := "kindTypes", fn := fun _ => fun
  | [d] => { results := [.lit (.bool false)], args := [d] }
  | _ => none }
def KindTypesWrongFalsely : Prop := kindTypesRow.holds Tryd.pinned (OpenSpec.ofChange kindTypesWrong)

/-- 'wharflaw11.KindFits': WHATEVER THE INPUT: true; the input reads as it did. -/
def kindFitsSpec : ChangeSpec := { name := "kindFits", fn := fun _ => fun
  | [d1, d2] => { results := [.lit (.bool true)], args := [d1, d2] }
  | _ => none }
def kindFitsRow : OpenClaim := { program := "ytoioindpmgkefaadoor", sum := "75459043ee0976ef1111d1e8bd3a8582dc6e76aea97467cc446ebd8d26100908", func := "wharf/wharflaw11.KindFits", spec := "kindFits", unfollowed := true, recurses := true, named := ["wharf/kind.table", "wharf/kind.inside"], apart := false, laid := [("wharf/kind.table", laid_wharf_kind_table), ("wharf/kind.inside", laid_wharf_kind_inside)] }
def KindFitsSaid : Prop := kindFitsRow.holds Tryd.pinned (OpenSpec.ofChange kindFitsSpec)

/-- ITS FALSE NEIGHBOUR: 'it returns false'. Refute it at one input. -/
def kindFitsWrong : ChangeSpec := { name := "kindFits", fn := fun _ => fun
  | [d1, d2] => { results := [.lit (.bool false)], args := [d1, d2] }
  | _ => none }
def KindFitsWrongFalsely : Prop := kindFitsRow.holds Tryd.pinned (OpenSpec.ofChange kindFitsWrong)

/-- 'wharflaw11.KindInside': WHATEVER THE INPUT: true; the input reads as it did. -/
def kindInsideSpec : ChangeSpec := { name := "kindInside", fn := fun _ => fun
  | [d] => { results := [.lit (.bool true)], args := [d] }
  | _ => none }
def kindInsideRow : OpenClaim := { program := "ytoioindpmgkefaadoor", sum := "75459043ee0976ef1111d1e8bd3a8582dc6e76aea97467cc446ebd8d26100908", func := "wharf/wharflaw11.KindInside", spec := "kindInside", unfollowed := true, recurses := true, named := ["wharf/kind.table", "wharf/kind.inside"], apart := false, laid := [("wharf/kind.table", laid_wharf_kind_table), ("wharf/kind.inside", laid_wharf_kind_inside)] }
def KindInsideSaid : Prop := kindInsideRow.holds Tryd.pinned (OpenSpec.ofChange kindInsideSpec)

/-- ITS FALSE NEIGHBOUR: 'it returns false'. Refute it at one input. -/
def kindInsideWrong : ChangeSpec := { name := "kindInside", fn := fun _ => fun
  | [d] => { results := [.lit (.bool false)], args := [d] }
  | _ => none }
def KindInsideWrongFalsely : Prop := kindInsideRow.holds Tryd.pinned (OpenSpec.ofChange kindInsideWrong)

/-- 'wharflaw11.KindMatchesReference': WHATEVER THE INPUT: true; the input reads as it did. -/
def kindMatchesReferenceSpec : ChangeSpec := { name := "kindMatchesReference", fn := fun _ => fun
  | [d] => { results := [.lit (.bool true)], args := [d] }
  | _ => none }
def kindMatchesReferenceRow : OpenClaim := { program := "ytoioindpmgkefaadoor", sum := "75459043ee0976ef1111d1e8bd3a8582dc6e76aea97467cc446ebd8d26100908", func := "wharf/wharflaw11.KindMatchesReference", spec := "kindMatchesReference", unfollowed := true, recurses := true, named := ["wharf/kind.table", "wharf/kind.inside"], apart := false, laid := [("wharf/kind.table", laid_wharf_kind_table), ("wharf/kind.inside", laid_wharf_kind_inside)] }
def KindMatchesReferenceSaid : Prop := kindMatchesReferenceRow.holds Tryd.pinned (OpenSpec.ofChange kindMatchesReferenceSpec)

/-- ITS FALSE NEIGHBOUR: 'it returns false'. Refute it at one input. -/
def kindMatchesReferenceWrong : ChangeSpec := { name := "kindMatchesReference", fn := fun _ => fun
  | [d] => { results := [.lit (.bool false)], args := [d] }
  | _ => none }
def KindMatchesReferenceWrongFalsely : Prop := kindMatchesReferenceRow.holds Tryd.pinned (OpenSpec.ofChange kindMatchesReferenceWrong)

/-- 'wharflaw11.KindNames': WHATEVER THE INPUT: true; the input reads as it did. -/
def kindNamesSpec : ChangeSpec := { name := "kindNames", fn := fun _ => fun
  | [d] => { results := [.lit (.bool true)], args := [d] }
  | _ => none }
def kindNamesRow : OpenClaim := { program := "ytoioindpmgkefaadoor", sum := "75459043ee0976ef1111d1e8bd3a8582dc6e76aea97467cc446ebd8d26100908", func := "wharf/wharflaw11.KindNames", spec := "kindNames", unfollowed := true, recurses := true, named := ["wharf/kind.table", "wharf/kind.inside"], apart := false, laid := [("wharf/kind.table", laid_wharf_kind_table), ("wharf/kind.inside", laid_wharf_kind_inside)] }
def KindNamesSaid : Prop := kindNamesRow.holds Tryd.pinned (OpenSpec.ofChange kindNamesSpec)

/-- ITS FALSE NEIGHBOUR: 'it returns false'. Refute it at one input. -/
def kindNamesWrong : ChangeSpec := { name := "kindNames", fn := fun _ => fun
  | [d] => { results := [.lit (.bool false)], args := [d] }
  | _ => none }
def KindNamesWrongFalsely : Prop := kindNamesRow.holds Tryd.pinned (OpenSpec.ofChange kindNamesWrong)

/- THE SECOND FORM. 'bulk': how many values and letters a reading holds, each counted each time it is reached (what is shared counts as often as it is met; a slice's spare places count too). A statement '..UptoSaid' is the law's where the arguments, and the package variables that the reading takes, are together of bulk at most 1048576: NARROWER than '..Said'. Prove '..Said' where nothing that the law and all that it calls make is longer than what came in: it says more and counts as full. Else prove '..UptoSaid'. A law counts once. -/
mutual
def uptoBulk {H : Type} : DataW H → Nat
  | .lit (.string bytes) => bytes.length + 1
  | .lit _ => 1
  | .nil => 1
  | .ptr d => uptoBulk d + 1
  | .slice elems spare => uptoBulkAll elems + uptoBulkAll spare + 1
  | .agg parts => uptoBulkAll parts + 1
  | .iface _ d => uptoBulk d + 1
  | .map entries => uptoBulkEntries entries + 1
  | .held _ => 1
def uptoBulkAll {H : Type} : List (DataW H) → Nat
  | [] => 0
  | d :: r => uptoBulk d + uptoBulkAll r
def uptoBulkEntries {H : Type} : List (Lit × DataW H) → Nat
  | [] => 0
  | x :: r => uptoBulkEntry x + uptoBulkEntries r
def uptoBulkEntry {H : Type} : Lit × DataW H → Nat
  | (.string bytes, d) => bytes.length + uptoBulk d + 1
  | (_, d) => uptoBulk d + 1
 end
def uptoSmall : (H : Type) → List (DataW H) → Bool := fun _ ds => decide (uptoBulkAll ds ≤ 1048576)
def OpenSpec.upto (s : _root_.Go.ChangeSpec) : _root_.Go.OpenSpec := { _root_.Go.OpenSpec.ofChange s with cond := some uptoSmall }

/-- 'wharflaw11.KindTypes', WHERE WHAT IT READS IS OF BULK AT MOST 1048576: true; the input reads as it did. -/
def kindTypesUptoRow : OpenClaim := { program := "ytoioindpmgkefaadoor", sum := "75459043ee0976ef1111d1e8bd3a8582dc6e76aea97467cc446ebd8d26100908", func := "wharf/wharflaw11.KindTypes", spec := "kindTypes", unfollowed := true, recurses := true, named := ["wharf/kind.table", "wharf/kind.inside"], apart := false, laid := [("wharf/kind.table", laid_wharf_kind_table), ("wharf/kind.inside", laid_wharf_kind_inside)], narrowed := true }
def KindTypesUptoSaid : Prop := kindTypesUptoRow.holds Tryd.pinned (OpenSpec.upto kindTypesSpec)

/-- 'wharflaw11.KindFits', WHERE WHAT IT READS IS OF BULK AT MOST 1048576: true; the input reads as it did. -/
def kindFitsUptoRow : OpenClaim := { program := "ytoioindpmgkefaadoor", sum := "75459043ee0976ef1111d1e8bd3a8582dc6e76aea97467cc446ebd8d26100908", func := "wharf/wharflaw11.KindFits", spec := "kindFits", unfollowed := true, recurses := true, named := ["wharf/kind.table", "wharf/kind.inside"], apart := false, laid := [("wharf/kind.table", laid_wharf_kind_table), ("wharf/kind.inside", laid_wharf_kind_inside)], narrowed := true }
def KindFitsUptoSaid : Prop := kindFitsUptoRow.holds Tryd.pinned (OpenSpec.upto kindFitsSpec)

/-- 'wharflaw11.KindInside', WHERE WHAT IT READS IS OF BULK AT MOST 1048576: true; the input reads as it did. -/
def kindInsideUptoRow : OpenClaim := { program := "ytoioindpmgkefaadoor", sum := "75459043ee0976ef1111d1e8bd3a8582dc6e76aea97467cc446ebd8d26100908", func := "wharf/wharflaw11.KindInside", spec := "kindInside", unfollowed := true, recurses := true, named := ["wharf/kind.table", "wharf/kind.inside"], apart := false, laid := [("wharf/kind.table", laid_wharf_kind_table), ("wharf/kind.inside", laid_wharf_kind_inside)], narrowed := true }
def KindInsideUptoSaid : Prop := kindInsideUptoRow.holds Tryd.pinned (OpenSpec.upto kindInsideSpec)

/-- 'wharflaw11.KindMatchesReference', WHERE WHAT IT READS IS OF BULK AT MOST 1048576: true; the input reads as it did. -/
def kindMatchesReferenceUptoRow : OpenClaim := { program := "ytoioindpmgkefaadoor", sum := "75459043ee0976ef1111d1e8bd3a8582dc6e76aea97467cc446ebd8d26100908", func := "wharf/wharflaw11.KindMatchesReference", spec := "kindMatchesReference", unfollowed := true, recurses := true, named := ["wharf/kind.table", "wharf/kind.inside"], apart := false, laid := [("wharf/kind.table", laid_wharf_kind_table), ("wharf/kind.inside", laid_wharf_kind_inside)], narrowed := true }
def KindMatchesReferenceUptoSaid : Prop := kindMatchesReferenceUptoRow.holds Tryd.pinned (OpenSpec.upto kindMatchesReferenceSpec)

/-- 'wharflaw11.KindNames', WHERE WHAT IT READS IS OF BULK AT MOST 1048576: true; the input reads as it did. -/
def kindNamesUptoRow : OpenClaim := { program := "ytoioindpmgkefaadoor", sum := "75459043ee0976ef1111d1e8bd3a8582dc6e76aea97467cc446ebd8d26100908", func := "wharf/wharflaw11.KindNames", spec := "kindNames", unfollowed := true, recurses := true, named := ["wharf/kind.table", "wharf/kind.inside"], apart := false, laid := [("wharf/kind.table", laid_wharf_kind_table), ("wharf/kind.inside", laid_wharf_kind_inside)], narrowed := true }
def KindNamesUptoSaid : Prop := kindNamesUptoRow.holds Tryd.pinned (OpenSpec.upto kindNamesSpec)

end Rows
end Go.Proofs.YtoioindpmgkefaaDoor

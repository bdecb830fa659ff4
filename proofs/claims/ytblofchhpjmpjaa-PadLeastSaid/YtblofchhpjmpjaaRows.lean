/-
  No cell of these rows narrows 'for every input' (looked for: loops, veiled, ifaces, maps, wideKeys, modest, calm, conditions, laid).
  DERIVED. THE GIVEN ROWS OF THIS SEAT. 4 by the template 'for every input the law returns true; each argument reads behind the call as it read before'; 0 by the template 'total and deterministic' (their statements: YtblofchhpjmpjaaTotals.lean).
  GIVEN WITH THE SEED: the statements are not yours to turn. If you find one false, say at which input.
  Laid BY PROGRAM, IN A SANDBOX (cutbox-rows.mjs): the forced cells as the released guide's own fill.sh prints them over the translation 9f47f683444b8c17… (all of the seat's roots in one cut). By AI agents, Wed Nov 11 2026. No macro, syntax, notation, axiom, sorry.
-/
import Derived.Test.YtblofchhpjmpjaaChecked
import GoSem.Claim
import GoSem.ClaimJoined
import GoSem.ClaimMapViews
import Derived.JoinedTies
import Derived.KernelRfl
namespace Go.Proofs.Ytblofchhpjmpjaa
/- THE CELL 'sum', in the pinned program and in every row, IS THE sha256 OF THE DUMP (.gsa) THAT YtblofchhpjmpjaaProg.lean LOADS. Nothing in Lean hashes anything: it is a label: what it is worth is what the hold of that sum in a sandbox is worth. -/
noncomputable def Try.pinned : Pinned := { name := "ytblofchhpjmpjaa", sum := "9f47f683444b8c17944e3faa60ef28c7150ccc050f0f32997e2647b5ff6885e1", checked := Try.checked }
namespace Rows
def none {H : Type} : Left H := { results := [], args := [] }

/-- 'wharflaw03.PadMatchesReference': WHATEVER THE INPUT: true; the input reads as it did. -/
def padMatchesReferenceSpec : ChangeSpec := { name := "padMatchesReference", fn := fun _ => fun
  | [d1, d2] => { results := [.lit (.bool true)], args := [d1, d2] }
  | _ => none }
def padMatchesReferenceRow : OpenClaim := { program := "ytblofchhpjmpjaa", sum := "9f47f683444b8c17944e3faa60ef28c7150ccc050f0f32997e2647b5ff6885e1", func := "wharf/wharflaw03.PadMatchesReference", spec := "padMatchesReference", unfollowed := true, recurses := true, apart := false }
def PadMatchesReferenceSaid : Prop := padMatchesReferenceRow.holds Try.pinned (OpenSpec.ofChange padMatchesReferenceSpec)

/-- ITS FALSE NEIGHBOUR: 'it returns false'. Refute it at one input. -/
def padMatchesReferenceWrong : ChangeSpec := { name := "padMatchesReference", fn := fun _ => fun
  | [d1, d2] => { results := [.lit (.bool false)], args := [d1, d2] }
  | _ => none }
def PadMatchesReferenceWrongFalsely : Prop := padMatchesReferenceRow.holds Try.pinned (OpenSpec.ofChange padMatchesReferenceWrong)

/-- 'wharflaw03.PadNext': WHATEVER THE INPUT: true; the input reads as it did. -/
def padNextSpec : ChangeSpec := { name := "padNext", fn := fun _ => fun
  | [d1, d2] => { results := [.lit (.bool true)], args := [d1, d2] }
  | _ => none }
def padNextRow : OpenClaim := { program := "ytblofchhpjmpjaa", sum := "9f47f683444b8c17944e3faa60ef28c7150ccc050f0f32997e2647b5ff6885e1", func := "wharf/wharflaw03.PadNext", spec := "padNext", unfollowed := true, recurses := true, apart := false }
def PadNextSaid : Prop := padNextRow.holds Try.pinned (OpenSpec.ofChange padNextSpec)

/-- ITS FALSE NEIGHBOUR: 'it returns false'. Refute it at one input. -/
def padNextWrong : ChangeSpec := { name := "padNext", fn := fun _ => fun
  | [d1, d2] => { results := [.lit (.bool false)], args := [d1, d2] }
  | _ => none }
def PadNextWrongFalsely : Prop := padNextRow.holds Try.pinned (OpenSpec.ofChange padNextWrong)

/-- 'wharflaw03.PadSizes': WHATEVER THE INPUT: true; the input reads as it did. -/
def padSizesSpec : ChangeSpec := { name := "padSizes", fn := fun _ => fun
  | [d] => { results := [.lit (.bool true)], args := [d] }
  | _ => none }
def padSizesRow : OpenClaim := { program := "ytblofchhpjmpjaa", sum := "9f47f683444b8c17944e3faa60ef28c7150ccc050f0f32997e2647b5ff6885e1", func := "wharf/wharflaw03.PadSizes", spec := "padSizes", unfollowed := true, recurses := true, apart := false }
def PadSizesSaid : Prop := padSizesRow.holds Try.pinned (OpenSpec.ofChange padSizesSpec)

/-- ITS FALSE NEIGHBOUR: 'it returns false'. Refute it at one input. -/
def padSizesWrong : ChangeSpec := { name := "padSizes", fn := fun _ => fun
  | [d] => { results := [.lit (.bool false)], args := [d] }
  | _ => none }
def PadSizesWrongFalsely : Prop := padSizesRow.holds Try.pinned (OpenSpec.ofChange padSizesWrong)

/-- 'wharflaw03.PadLeast': WHATEVER THE INPUT: true; the input reads as it did. -/
def padLeastSpec : ChangeSpec := { name := "padLeast", fn := fun _ => fun
  | [d1, d2] => { results := [.lit (.bool true)], args := [d1, d2] }
  | _ => none }
def padLeastRow : OpenClaim := { program := "ytblofchhpjmpjaa", sum := "9f47f683444b8c17944e3faa60ef28c7150ccc050f0f32997e2647b5ff6885e1", func := "wharf/wharflaw03.PadLeast", spec := "padLeast", unfollowed := true, recurses := true, apart := false }
def PadLeastSaid : Prop := padLeastRow.holds Try.pinned (OpenSpec.ofChange padLeastSpec)

/-- ITS FALSE NEIGHBOUR: 'it returns false'. Refute it at one input. -/
def padLeastWrong : ChangeSpec := { name := "padLeast", fn := fun _ => fun
  | [d1, d2] => { results := [.lit (.bool false)], args := [d1, d2] }
  | _ => none }
def PadLeastWrongFalsely : Prop := padLeastRow.holds Try.pinned (OpenSpec.ofChange padLeastWrong)

/- THE SECOND FORM. 'bulk': how many values and letters a reading holds, each counted each time it is reached (what is shared counts as often as it is met; a slice's spare places count too). A statement '..UptoSaid' is the law's where the arguments, and the package variables that the reading takes, are together of bulk at most 1048576: NARROWER than '..Said'. Prove '..Said' where nothing that the law and all that it calls make is longer than what came in: it says more and counts as full. Else prove '..UptoSaid'. A law counts once. -/
mutual
def uptoBulk {H : Type} : DataW H → Nat
  | .lit (.string bytes) => bytes.length + 1
  | .lit _ => 1
  | .nil => 1
  | .ptr d => uptoBulk d + 1
  | .slice elems spare => uptoBulkAll elems + uptoBulkAll spare + 1
  | .agg parts => uptoBulkAll parts + 1
  | .iface _ d => uptoBulk d + 1
  | .map entries => uptoBulkEntries entries + 1
  | .held _ => 1
def uptoBulkAll {H : Type} : List (DataW H) → Nat
  | [] => 0
  | d :: r => uptoBulk d + uptoBulkAll r
def uptoBulkEntries {H : Type} : List (Lit × DataW H) → Nat
  | [] => 0
  | x :: r => uptoBulkEntry x + uptoBulkEntries r
def uptoBulkEntry {H : Type} : Lit × DataW H → Nat
  | (.string bytes, d) => bytes.length + uptoBulk d + 1
  | (_, d) => uptoBulk d + 1
 end
def uptoSmall : (H : Type) → List (DataW H) → Bool := fun _ ds => decide (uptoBulkAll ds ≤ 1048576)
def OpenSpec.upto (s : _root_.Go.ChangeSpec) : _root_.Go.OpenSpec := { _root_.Go.OpenSpec.ofChange s with cond := some uptoSmall }

/-- 'wharflaw03.PadMatchesReference', WHERE WHAT IT READS IS OF BULK AT MOST 1048576: true; the input reads as it did. -/
def padMatchesReferenceUptoRow : OpenClaim := { program := "ytblofchhpjmpjaa", sum := "9f47f683444b8c17944e3faa60ef28c7150ccc050f0f32997e2647b5ff6885e1", func := "wharf/wharflaw03.PadMatchesReference", spec := "padMatchesReference", unfollowed := true, recurses := true, apart := false, narrowed := true }
def PadMatchesReferenceUptoSaid : Prop := padMatchesReferenceUptoRow.holds Try.pinned (OpenSpec.upto padMatchesReferenceSpec)

/-- 'wharflaw03.PadNext', WHERE WHAT IT READS IS OF BULK AT MOST 1048576: true; the input reads as it did. -/
def padNextUptoRow : OpenClaim := { program := "ytblofchhpjmpjaa", sum := "9f47f683444b8c17944e3faa60ef28c7150ccc050f0f32997e2647b5ff6885e1", func := "wharf/wharflaw03.PadNext", spec := "padNext", unfollowed := true, recurses := true, apart := false, narrowed := true }
def PadNextUptoSaid : Prop := padNextUptoRow.holds Try.pinned (OpenSpec.upto padNextSpec)

/-- 'wharflaw03.PadSizes', WHERE WHAT IT READS IS OF BULK AT MOST 1048576: true; the input reads as it did. -/
def padSizesUptoRow : OpenClaim := { program := "ytblofchhpjmpjaa", sum := "9f47f683444b8c17944e3faa60ef28c7150ccc050f0f32997e2647b5ff6885e1", func := "wharf/wharflaw03.PadSizes", spec := "padSizes", unfollowed := true, recurses := true, apart := false, narrowed := true }
def PadSizesUptoSaid : Prop := padSizesUptoRow.holds Try.pinned (OpenSpec.upto padSizesSpec)

/-- 'wharflaw03.PadLeast', WHERE WHAT IT READS IS OF BULK AT MOST 1048576: true; the input reads as it did. -/
def padLeastUptoRow : OpenClaim := { program := "ytblofchhpjmpjaa", sum := "9f47f683444b8c17944e3faa60ef28c7150ccc050f0f32997e2647b5ff6885e1", func := "wharf/wharflaw03.PadLeast", spec := "padLeast", unfollowed := true, recurses := true, apart := false, narrowed := true }
def PadLeastUptoSaid : Prop := padLeastUptoRow.holds Try.pinned (OpenSpec.upto padLeastSpec)

end Rows
end Go.Proofs.Ytblofchhpjmpjaa

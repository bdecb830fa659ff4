/-
  No cell of these rows narrows 'for every input' (looked for: loops, veiled, ifaces, maps, wideKeys, modest, calm, conditions, laid).
  DERIVED. THE GIVEN ROWS OF THIS SEAT. 5 by the template 'for every input the law returns true; each argument reads behind the call as it read before'; 0 by the template 'total and deterministic' (their statements: YtadlmefdkpbflaaTotals.lean).
  GIVEN WITH THE SEED: the statements are not yours to turn. If you find one false, say at which input.
  Laid BY PROGRAM, IN A SANDBOX (cutbox-rows.mjs): the forced cells as the released guide's own fill.sh prints them over the translation 70e1461aad0e669d… (all of the seat's roots in one cut). By AI agents, Wed Nov 11 2026. No macro, syntax, notation, axiom, sorry.
-/
import Derived.Test.YtadlmefdkpbflaaChecked
import GoSem.Claim
import GoSem.ClaimJoined
import GoSem.ClaimMapViews
import Derived.JoinedTies
import Derived.KernelRfl
namespace Go.Proofs.Ytadlmefdkpbflaa
/- THE CELL 'sum', in the pinned program and in every row, IS THE sha256 OF THE DUMP (.gsa) THAT YtadlmefdkpbflaaProg.lean LOADS. Nothing in Lean hashes anything: it is a label: what it is worth is what the hold of that sum in a sandbox is worth. -/
noncomputable def Try.pinned : Pinned := { name := "ytadlmefdkpbflaa", sum := "70e1461aad0e669d20906feeda109901b6e2e8d72a8f9d2d9c8991f461830f7a", checked := Try.checked }
namespace Rows
def none {H : Type} : Left H := { results := [], args := [] }

/-- 'wharflaw04.PolyMatchesReference': WHATEVER THE INPUT: true; the input reads as it did. -/
def polyMatchesReferenceSpec : ChangeSpec := { name := "polyMatchesReference", fn := fun _ => fun
  | [d1, d2] => { results := [.lit (.bool true)], args := [d1, d2] }
  | _ => none }
def polyMatchesReferenceRow : OpenClaim := { program := "ytadlmefdkpbflaa", sum := "70e1461aad0e669d20906feeda109901b6e2e8d72a8f9d2d9c8991f461830f7a", func := "wharf/wharflaw04.PolyMatchesReference", spec := "polyMatchesReference", unfollowed := true, recurses := true, apart := false }
def PolyMatchesReferenceSaid : Prop := polyMatchesReferenceRow.holds Try.pinned (OpenSpec.ofChange polyMatchesReferenceSpec)

/-- ITS FALSE NEIGHBOUR: 'it returns false'. Refute it at one input. -/
def polyMatchesReferenceWrong : ChangeSpec := { name := "polyMatchesReference", fn := fun _ => fun
  | [d1, d2] => { results := [.lit (.bool false)], args := [d1, d2] }
  | _ => none }
def PolyMatchesReferenceWrongFalsely : Prop := polyMatchesReferenceRow.holds Try.pinned (OpenSpec.ofChange polyMatchesReferenceWrong)

/-- 'wharflaw04.PolyLaws': WHATEVER THE INPUT: true; the input reads as it did. -/
def polyLawsSpec : ChangeSpec := { name := "polyLaws", fn := fun _ => fun
  | [d1, d2, d3] => { results := [.lit (.bool true)], args := [d1, d2, d3] }
  | _ => none }
def polyLawsRow : OpenClaim := { program := "ytadlmefdkpbflaa", sum := "70e1461aad0e669d20906feeda109901b6e2e8d72a8f9d2d9c8991f461830f7a", func := "wharf/wharflaw04.PolyLaws", spec := "polyLaws", unfollowed := true, recurses := true, apart := false }
def PolyLawsSaid : Prop := polyLawsRow.holds Try.pinned (OpenSpec.ofChange polyLawsSpec)

/-- ITS FALSE NEIGHBOUR: 'it returns false'. Refute it at one input. -/
def polyLawsWrong : ChangeSpec := { name := "polyLaws", fn := fun _ => fun
  | [d1, d2, d3] => { results := [.lit (.bool false)], args := [d1, d2, d3] }
  | _ => none }
def PolyLawsWrongFalsely : Prop := polyLawsRow.holds Try.pinned (OpenSpec.ofChange polyLawsWrong)

/-- 'wharflaw04.PolyShifts': WHATEVER THE INPUT: true; the input reads as it did. -/
def polyShiftsSpec : ChangeSpec := { name := "polyShifts", fn := fun _ => fun
  | [d1, d2] => { results := [.lit (.bool true)], args := [d1, d2] }
  | _ => none }
def polyShiftsRow : OpenClaim := { program := "ytadlmefdkpbflaa", sum := "70e1461aad0e669d20906feeda109901b6e2e8d72a8f9d2d9c8991f461830f7a", func := "wharf/wharflaw04.PolyShifts", spec := "polyShifts", unfollowed := true, recurses := true, apart := false }
def PolyShiftsSaid : Prop := polyShiftsRow.holds Try.pinned (OpenSpec.ofChange polyShiftsSpec)

/-- ITS FALSE NEIGHBOUR: 'it returns false'. Refute it at one input. -/
def polyShiftsWrong : ChangeSpec := { name := "polyShifts", fn := fun _ => fun
  | [d1, d2] => { results := [.lit (.bool false)], args := [d1, d2] }
  | _ => none }
def PolyShiftsWrongFalsely : Prop := polyShiftsRow.holds Try.pinned (OpenSpec.ofChange polyShiftsWrong)

/-- 'wharflaw04.PolyBytes': WHATEVER THE INPUT: true; the input reads as it did. -/
def polyBytesSpec : ChangeSpec := { name := "polyBytes", fn := fun _ => fun
  | [d1, d2] => { results := [.lit (.bool true)], args := [d1, d2] }
  | _ => none }
def polyBytesRow : OpenClaim := { program := "ytadlmefdkpbflaa", sum := "70e1461aad0e669d20906feeda109901b6e2e8d72a8f9d2d9c8991f461830f7a", func := "wharf/wharflaw04.PolyBytes", spec := "polyBytes", unfollowed := true, recurses := true, apart := false }
def PolyBytesSaid : Prop := polyBytesRow.holds Try.pinned (OpenSpec.ofChange polyBytesSpec)

/-- ITS FALSE NEIGHBOUR: 'it returns false'. Refute it at one input. -/
def polyBytesWrong : ChangeSpec := { name := "polyBytes", fn := fun _ => fun
  | [d1, d2] => { results := [.lit (.bool false)], args := [d1, d2] }
  | _ => none }
def PolyBytesWrongFalsely : Prop := polyBytesRow.holds Try.pinned (OpenSpec.ofChange polyBytesWrong)

/-- 'wharflaw04.PolyGenerator': WHATEVER THE INPUT: true; the input reads as it did. -/
def polyGeneratorSpec : ChangeSpec := { name := "polyGenerator", fn := fun _ => fun
  | [d1, d2] => { results := [.lit (.bool true)], args := [d1, d2] }
  | _ => none }
def polyGeneratorRow : OpenClaim := { program := "ytadlmefdkpbflaa", sum := "70e1461aad0e669d20906feeda109901b6e2e8d72a8f9d2d9c8991f461830f7a", func := "wharf/wharflaw04.PolyGenerator", spec := "polyGenerator", unfollowed := true, recurses := true, apart := false }
def PolyGeneratorSaid : Prop := polyGeneratorRow.holds Try.pinned (OpenSpec.ofChange polyGeneratorSpec)

/-- ITS FALSE NEIGHBOUR: 'it returns false'. Refute it at one input. -/
def polyGeneratorWrong : ChangeSpec := { name := "polyGenerator", fn := fun _ => fun
  | [d1, d2] => { results := [.lit (.bool false)], args := [d1, d2] }
  | _ => none }
def PolyGeneratorWrongFalsely : Prop := polyGeneratorRow.holds Try.pinned (OpenSpec.ofChange polyGeneratorWrong)

/- THE SECOND FORM. 'bulk': how many values and letters a reading holds, each counted each time it is reached (what is shared counts as often as it is met; a slice's spare places count too). A statement '..UptoSaid' is the law's where the arguments, and the package variables that the reading takes, are together of bulk at most 1048576: NARROWER than '..Said'. Prove '..Said' where nothing that the law and all that it calls make is longer than what came in: it says more and counts as full. Else prove '..UptoSaid'. A law counts once. -/
mutual
def uptoBulk {H : Type} : DataW H → Nat
  | .lit (.string bytes) => bytes.length + 1
  | .lit _ => 1
  | .nil => 1
  | .ptr d => uptoBulk d + 1
  | .slice elems spare => uptoBulkAll elems + uptoBulkAll spare + 1
  | .agg parts => uptoBulkAll parts + 1
  | .iface _ d => uptoBulk d + 1
  | .map entries => uptoBulkEntries entries + 1
  | .held _ => 1
def uptoBulkAll {H : Type} : List (DataW H) → Nat
  | [] => 0
  | d :: r => uptoBulk d + uptoBulkAll r
def uptoBulkEntries {H : Type} : List (Lit × DataW H) → Nat
  | [] => 0
  | x :: r => uptoBulkEntry x + uptoBulkEntries r
def uptoBulkEntry {H : Type} : Lit × DataW H → Nat
  | (.string bytes, d) => bytes.length + uptoBulk d + 1
  | (_, d) => uptoBulk d + 1
 end
def uptoSmall : (H : Type) → List (DataW H) → Bool := fun _ ds => decide (uptoBulkAll ds ≤ 1048576)
def OpenSpec.upto (s : _root_.Go.ChangeSpec) : _root_.Go.OpenSpec := { _root_.Go.OpenSpec.ofChange s with cond := some uptoSmall }

/-- 'wharflaw04.PolyMatchesReference', WHERE WHAT IT READS IS OF BULK AT MOST 1048576: true; the input reads as it did. -/
def polyMatchesReferenceUptoRow : OpenClaim := { program := "ytadlmefdkpbflaa", sum := "70e1461aad0e669d20906feeda109901b6e2e8d72a8f9d2d9c8991f461830f7a", func := "wharf/wharflaw04.PolyMatchesReference", spec := "polyMatchesReference", unfollowed := true, recurses := true, apart := false, narrowed := true }
def PolyMatchesReferenceUptoSaid : Prop := polyMatchesReferenceUptoRow.holds Try.pinned (OpenSpec.upto polyMatchesReferenceSpec)

/-- 'wharflaw04.PolyLaws', WHERE WHAT IT READS IS OF BULK AT MOST 1048576: true; the input reads as it did. -/
def polyLawsUptoRow : OpenClaim := { program := "ytadlmefdkpbflaa", sum := "70e1461aad0e669d20906feeda109901b6e2e8d72a8f9d2d9c8991f461830f7a", func := "wharf/wharflaw04.PolyLaws", spec := "polyLaws", unfollowed := true, recurses := true, apart := false, narrowed := true }
def PolyLawsUptoSaid : Prop := polyLawsUptoRow.holds Try.pinned (OpenSpec.upto polyLawsSpec)

/-- 'wharflaw04.PolyShifts', WHERE WHAT IT READS IS OF BULK AT MOST 1048576: true; the input reads as it did. -/
def polyShiftsUptoRow : OpenClaim := { program := "ytadlmefdkpbflaa", sum := "70e1461aad0e669d20906feeda109901b6e2e8d72a8f9d2d9c8991f461830f7a", func := "wharf/wharflaw04.PolyShifts", spec := "polyShifts", unfollowed := true, recurses := true, apart := false, narrowed := true }
def PolyShiftsUptoSaid : Prop := polyShiftsUptoRow.holds Try.pinned (OpenSpec.upto polyShiftsSpec)

/-- 'wharflaw04.PolyBytes', WHERE WHAT IT READS IS OF BULK AT MOST 1048576: true; the input reads as it did. -/
def polyBytesUptoRow : OpenClaim := { program := "ytadlmefdkpbflaa", sum := "70e1461aad0e669d20906feeda109901b6e2e8d72a8f9d2d9c8991f461830f7a", func := "wharf/wharflaw04.PolyBytes", spec := "polyBytes", unfollowed := true, recurses := true, apart := false, narrowed := true }
def PolyBytesUptoSaid : Prop := polyBytesUptoRow.holds Try.pinned (OpenSpec.upto polyBytesSpec)

/-- 'wharflaw04.PolyGenerator', WHERE WHAT IT READS IS OF BULK AT MOST 1048576: true; the input reads as it did. -/
def polyGeneratorUptoRow : OpenClaim := { program := "ytadlmefdkpbflaa", sum := "70e1461aad0e669d20906feeda109901b6e2e8d72a8f9d2d9c8991f461830f7a", func := "wharf/wharflaw04.PolyGenerator", spec := "polyGenerator", unfollowed := true, recurses := true, apart := false, narrowed := true }
def PolyGeneratorUptoSaid : Prop := polyGeneratorUptoRow.holds Try.pinned (OpenSpec.upto polyGeneratorSpec)

end Rows
end Go.Proofs.Ytadlmefdkpbflaa

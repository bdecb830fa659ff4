/- The contracts of the functions of package wire that only read, and of their reference. -/
import Derived.Test.YtmncmbbgdkkgaaaGreatDoorSame
namespace Go.Proofs.YtmncmbbgdkkgaaaGreatDoor
set_option maxRecDepth 100000
open Go.RowKit

/-- whether numbers can have a size -/
def rightB (k : Int) : Bool := k == 1 || k == 2 || k == 4
theorem right_any (k : Int) (w : World) : Calls Tryz.prog 47 #[.int .i64 k] w fun e w' => e = .returned (.bool (rightB k)) ∧ w = w' := by
  unfold rightB
  cases h1 : (k == 1) <;> cases h2 : (k == 2)
  all_goals
    go_enter Tryz.func47, Tryz.ntmps47
    go_wp2
    go_ret
    exact ⟨by simp, rfl⟩
theorem right_cases {k : Int} (h : rightB k = true) : k = 1 ∨ k = 2 ∨ k = 4 := by
  simp [rightB] at h; omega

end Go.Proofs.YtmncmbbgdkkgaaaGreatDoor

/- The contracts of the functions of package wire that only read, and of their reference. -/
import Derived.Test.YtoldkoeijgnflaaSame
namespace Go.Proofs.Ytoldkoeijgnflaa
open Go.RowKit

/-- whether numbers can have a size -/
def rightB (k : Int) : Bool := k == 1 || k == 2 || k == 4
theorem right_any (k : Int) (w : World) : Calls Try.prog 25 #[.int .i64 k] w fun e w' => e = .returned (.bool (rightB k)) ∧ w = w' := by
  unfold rightB
  cases h1 : (k == 1) <;> cases h2 : (k == 2)
  all_goals
    go_enter Try.func25, Try.ntmps25
    go_wp2
    go_ret
    exact ⟨by simp, rfl⟩
theorem refright_any (k : Int) (w : World) : Calls Try.prog 19 #[.int .i64 k] w fun e w' => e = .returned (.bool (rightB k)) ∧ w = w' := by
  unfold rightB
  cases h1 : (k == 1) <;> cases h2 : (k == 2)
  all_goals
    go_enter Try.func19, Try.ntmps19
    go_wp2
    go_ret
    exact ⟨by simp, rfl⟩
theorem right_cases {k : Int} (h : rightB k = true) : k = 1 ∨ k = 2 ∨ k = 4 := by
  simp [rightB] at h; omega

end Go.Proofs.Ytoldkoeijgnflaa

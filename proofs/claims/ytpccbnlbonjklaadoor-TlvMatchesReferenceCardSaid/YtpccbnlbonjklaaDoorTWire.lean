/- The contracts of the functions of package wire that only read, and of their reference. -/
import Derived.Test.YtpccbnlbonjklaaDoorTSame
namespace Go.Proofs.YtpccbnlbonjklaaDoor.Wr
open Go.RowKit

/-- whether numbers can have a size -/
def rightB (k : Int) : Bool := k == 1 || k == 2 || k == 4
theorem right_any (k : Int) (w : World) : Calls Tryd.prog 45 #[.int .i64 k] w fun e w' => e = .returned (.bool (rightB k)) ∧ w = w' := by
  unfold rightB
  cases h1 : (k == 1) <;> cases h2 : (k == 2)
  all_goals
    go_enter Tryd.func45, Tryd.ntmps45
    go_wp2
    go_ret
    exact ⟨by simp, rfl⟩
theorem refright_any (k : Int) (w : World) : Calls Tryd.prog 39 #[.int .i64 k] w fun e w' => e = .returned (.bool (rightB k)) ∧ w = w' := by
  unfold rightB
  cases h1 : (k == 1) <;> cases h2 : (k == 2)
  all_goals
    go_enter Tryd.func39, Tryd.ntmps39
    go_wp2
    go_ret
    exact ⟨by simp, rfl⟩
theorem right_cases {k : Int} (h : rightB k = true) : k = 1 ∨ k = 2 ∨ k = 4 := by
  simp [rightB] at h; omega

end Go.Proofs.YtpccbnlbonjklaaDoor.Wr

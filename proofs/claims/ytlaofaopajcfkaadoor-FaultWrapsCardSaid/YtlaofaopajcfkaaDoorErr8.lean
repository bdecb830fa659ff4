/- Names and the text of code 7. -/
import Derived.Test.YtlaofaopajcfkaaDoorErr7
namespace Go.Proofs.YtlaofaopajcfkaaDoor
open Go.RowKit Go.Extern.Stop Go.Stop Go.Extern

def nam : Nat → ByteArray
  | 0 => ⟨#[]⟩
  | 1 => ⟨#[115, 104, 111, 114, 116]⟩
  | 2 => ⟨#[97, 108, 105, 103, 110]⟩
  | 3 => ⟨#[99, 104, 101, 99, 107, 115, 117, 109]⟩
  | 4 => ⟨#[108, 101, 110, 103, 116, 104]⟩
  | 5 => ⟨#[112, 97, 100, 100, 105, 110, 103]⟩
  | 6 => ⟨#[102, 108, 97, 103, 115]⟩
  | 7 => ⟨#[102, 111, 114, 109]⟩
  | 8 => ⟨#[99, 111, 117, 110, 116]⟩
  | 9 => ⟨#[100, 101, 112, 116, 104]⟩
  | 10 => ⟨#[112, 108, 97, 99, 101]⟩
  | 11 => ⟨#[118, 97, 108, 117, 101]⟩
  | 12 => ⟨#[115, 121, 110, 116, 97, 120]⟩
  | _ => ⟨#[]⟩
def NamOk (w : World) : Prop := ∀ i, i < 13 → w.cell? ⟨0, i, none⟩ = some (.string (nam i))
theorem NamOk.below {w w' : World} (h : NamOk w) (hb : Below w.heap.size w w') : NamOk w' := fun i hi => (hb.cell (p := ⟨0, i, none⟩) (lt_of_cell (h i hi))).trans (h i hi)
def namZ (c : Int) : ByteArray := if 0 ≤ c ∧ c < 13 then nam c.toNat else ⟨#[]⟩
theorem name_any (c : Int) (w : World) (h : NamOk w) : Calls Tryd.prog 14 #[.int .i64 c] w fun e w' => e = .returned (.string (namZ c)) ∧ w = w' := by
  by_cases hc : 0 ≤ c ∧ c < 13
  · obtain ⟨k, rfl⟩ : ∃ k : Nat, c = k := ⟨c.toNat, by omega⟩
    have h1 := h k (by omega)
    have e1 : namZ k = nam k := by unfold namZ; rw [if_pos hc]; rfl
    rw [e1]
    have hk : k < 13 := by omega
    clear h hc e1
    go_enter Tryd.func14, Tryd.ntmps14
    go_wp2
    go_ret
    exact ⟨rfl, rfl⟩
  · have e1 : namZ c = ⟨#[]⟩ := by unfold namZ; rw [if_neg hc]
    rw [e1]
    clear h
    by_cases h0 : c < 0
    · clear hc
      go_enter Tryd.func14, Tryd.ntmps14
      go_wp2
      go_ret
      exact ⟨rfl, rfl⟩
    · have d0 : decide (c < 0) = false := by simp; omega
      have d1 : decide (13 ≤ c) = true := by simp; omega
      clear hc h0
      go_enter Tryd.func14, Tryd.ntmps14
      go_wp2
      go_ret
      exact ⟨rfl, rfl⟩
theorem text7 (w : World) : Calls Tryd.prog 47 #[.int .i64 7] w fun e w' => e = .returned (.string ⟨#[101, 114, 114, 111, 114, 32, 55]⟩) ∧ w = w' := by
  go_enter Tryd.func47, Tryd.ntmps47
  go_wp2
  go_ret
  exact ⟨rfl, rfl⟩
end Go.Proofs.YtlaofaopajcfkaaDoor

/- The reference's Number. -/
import Derived.Test.YtmncmbbgdkkgaaaGreatDoorAWire
namespace Go.Proofs.YtmncmbbgdkkgaaaGreatDoor
set_option maxRecDepth 100000
open Go.RowKit

/-- the number that bytes are -/
def num (zs : List Int) : Int := zs.foldl (fun x z => x * 256 + z) 0
theorem num_snoc (zs : List Int) (z : Int) : num (zs ++ [z]) = num zs * 256 + z := by simp [num]
theorem num_bd : ∀ (m : Nat) (zs : List Int), zs.length = m → Byt zs → 0 ≤ num zs ∧ num zs < 256 ^ m := by
  intro m
  induction m with
  | zero =>
    intro zs h _
    obtain rfl : zs = [] := List.length_eq_zero_iff.1 h
    simp [num]
  | succ m ih =>
    intro zs h hb
    have hne : zs ≠ [] := fun e => by subst e; simp at h
    have hs := List.dropLast_concat_getLast hne
    rw [← hs, num_snoc]
    have h1 := ih zs.dropLast (by simp; omega) (fun z hz => hb z (List.dropLast_subset _ hz))
    have h2 := hb _ (List.getLast_mem hne)
    rw [Int.pow_succ]
    omega
theorem num_small {m : Nat} {zs : List Int} (h : zs.length = m) (hm : m ≤ 3) (hb : Byt zs) : 0 ≤ num zs ∧ num zs ≤ 16777215 := by
  have h1 := num_bd m zs h hb
  have h2 : m = 0 ∨ m = 1 ∨ m = 2 ∨ m = 3 := by omega
  rcases h2 with rfl | rfl | rfl | rfl <;> simp at h1 <;> omega

end Go.Proofs.YtmncmbbgdkkgaaaGreatDoor

/- The reference's Name; awake. -/
import Derived.Test.YtlaofaopajcfkaaDoorErr8
import Derived.Deep.RegionWith
namespace Go.Proofs.YtlaofaopajcfkaaDoor
open Go.RowKit Go.Extern.Stop Go.Stop Go.Extern

theorem refname_any (c : Int) (w : World) (h0 : -9223372036854775808 ≤ c) (h1 : c ≤ 9223372036854775807) : Calls Tryd.prog 15 #[.int .i64 c] w fun e w' => e = .returned (.string (namZ c)) ∧ Below w.heap.size w w' := by
  by_cases hc : 1 ≤ c ∧ c ≤ 12
  · obtain ⟨k, rfl⟩ : ∃ k : Nat, c = (k : Int) + 1 := ⟨(c - 1).toNat, by omega⟩
    have e1 : namZ ((k : Int) + 1) = nam (k + 1) := by unfold namZ; rw [if_pos (by omega)]; rfl
    rw [e1]
    have hk : k < 12 := by omega
    have hcell : (w.alloc (.cells #[.string ⟨#[115, 104, 111, 114, 116]⟩, .string ⟨#[97, 108, 105, 103, 110]⟩, .string ⟨#[99, 104, 101, 99, 107, 115, 117, 109]⟩, .string ⟨#[108, 101, 110, 103, 116, 104]⟩, .string ⟨#[112, 97, 100, 100, 105, 110, 103]⟩, .string ⟨#[102, 108, 97, 103, 115]⟩, .string ⟨#[102, 111, 114, 109]⟩, .string ⟨#[99, 111, 117, 110, 116]⟩, .string ⟨#[100, 101, 112, 116, 104]⟩, .string ⟨#[112, 108, 97, 99, 101]⟩, .string ⟨#[118, 97, 108, 117, 101]⟩, .string ⟨#[115, 121, 110, 116, 97, 120]⟩] 9)).cell? ⟨w.heap.size, k, none⟩ = some (.string (nam (k + 1))) := by
      have hcs : k = 0 ∨ k = 1 ∨ k = 2 ∨ k = 3 ∨ k = 4 ∨ k = 5 ∨ k = 6 ∨ k = 7 ∨ k = 8 ∨ k = 9 ∨ k = 10 ∨ k = 11 := by omega
      rcases hcs with rfl | rfl | rfl | rfl | rfl | rfl | rfl | rfl | rfl | rfl | rfl | rfl
      all_goals simp [nam]
    have hB := Lib.hid ((Below.refl _ w).alloc (Nat.le_refl _) (.cells #[.string ⟨#[115, 104, 111, 114, 116]⟩, .string ⟨#[97, 108, 105, 103, 110]⟩, .string ⟨#[99, 104, 101, 99, 107, 115, 117, 109]⟩, .string ⟨#[108, 101, 110, 103, 116, 104]⟩, .string ⟨#[112, 97, 100, 100, 105, 110, 103]⟩, .string ⟨#[102, 108, 97, 103, 115]⟩, .string ⟨#[102, 111, 114, 109]⟩, .string ⟨#[99, 111, 117, 110, 116]⟩, .string ⟨#[100, 101, 112, 116, 104]⟩, .string ⟨#[112, 108, 97, 99, 101]⟩, .string ⟨#[118, 97, 108, 117, 101]⟩, .string ⟨#[115, 121, 110, 116, 97, 120]⟩] 9))
    have d0 : decide ((k : Int) + 1 < 1) = false := by simp; omega
    have d1 : decide (12 < (k : Int) + 1) = false := by simp; omega
    clear hc e1
    go_enter Tryd.func15, Tryd.ntmps15
    go_wp2
    go_ret
    exact ⟨rfl, hB.out⟩
  · have e1 : namZ c = ⟨#[]⟩ := by
      unfold namZ
      by_cases h : 0 ≤ c ∧ c < 13
      · obtain rfl : c = 0 := by omega
        rfl
      · rw [if_neg h]
    rw [e1]
    by_cases h0 : c < 1
    · clear hc
      go_enter Tryd.func15, Tryd.ntmps15
      go_wp2
      go_ret
      exact ⟨rfl, Below.refl _ _⟩
    · have d0 : decide (c < 1) = false := by simp; omega
      have d1 : decide (12 < c) = true := by simp; omega
      clear hc h0
      go_enter Tryd.func15, Tryd.ntmps15
      go_wp2
      go_ret
      exact ⟨rfl, Below.refl _ _⟩

theorem textFault (w : World) : Calls Tryd.prog 62 #[.agg #[.int .i64 7, .int .i64 7]] w fun e w' => e = .returned (.string ⟨#[101, 114, 114, 111, 114, 32, 55]⟩) ∧ Below w.heap.size w w' := by
  go_enter Tryd.func62, Tryd.ntmps62
  go_wp2_with (go_at_call 47; refine (text7 _).mono ?_; rintro e w' ⟨rfl, rfl⟩)
  go_ret
  exact ⟨rfl, (Below.refl _ w).alloc (Nat.le_refl _) _⟩
theorem textInner (w : World) : Calls Tryd.prog 64 #[.agg #[.string ⟨#[99, 104, 117, 110, 107]⟩, .iface 48 (.agg #[.int .i64 7, .int .i64 7])]] w fun e w' => e = .returned (.string ⟨#[99, 104, 117, 110, 107, 58, 32, 101, 114, 114, 111, 114, 32, 55]⟩) ∧ Below w.heap.size w w' := by
  go_enter Tryd.func64, Tryd.ntmps64
  go_wp2
  go_region_with (first | (go_at_call 62; refine (textFault _).mono ?_; rintro e w2 ⟨rfl, hb2⟩; have q0 := (hb2.cell (p := ⟨w.heap.size, 0, none⟩) (by simp)).trans (show _ = some (Value.string ⟨#[99, 104, 117, 110, 107]⟩) by simp); have q1 := (hb2.cell (p := ⟨w.heap.size, 1, none⟩) (by simp)).trans (show _ = some (Value.iface 48 (.agg #[.int .i64 7, .int .i64 7])) by simp)) | (go_at_call 47; refine (text7 _).mono ?_; rintro e w' ⟨rfl, rfl⟩))
  all_goals (try go_wp2)
  all_goals go_ret
  all_goals exact ⟨by first | rfl | (congr 2), ((((Below.refl _ w).alloc (Nat.le_refl _) _).drew).trans (hb2.mono (by simp)))⟩
end Go.Proofs.YtlaofaopajcfkaaDoor

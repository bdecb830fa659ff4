/- The walk of AddressBytes. -/
import Derived.Test.YtmncmbbgdkkgaaaGreatDoorAd16
namespace Go.Proofs.YtmncmbbgdkkgaaaGreatDoor
set_option maxRecDepth 100000
set_option linter.unusedVariables false
open Go.RowKit

set_option maxHeartbeats 8000000 in
theorem walk_AddressBytes (a : Option Addr) (n c : Nat) (xs : List Int) (w : World) (hg : Glob w) (hx : Ints .u8 w a n c xs) (bx : Byt xs) :
    Calls Tryz.prog 4 #[.slice a n c] w fun e w' => e = .returned (.bool true) ∧ Below w.heap.size w w' := by
  have HG := Lib.hid hg
  have HX := Lib.hid hx
  clear hg hx
  by_cases hn : n ≤ 100
  · by_cases h : n = 4 ∨ n = 16
    · go_enter Tryz.func4, Tryz.ntmps4
      go_wp2_with fail
      refine (awake_any _ HG.out).mono ?_
      rintro e w1 ⟨rfl, hb1⟩
      have HX1 := Lib.hid (HX.out.below hb1)
      have HB1 := Lib.hid hb1
      clear hb1
      have d0 : decide ((100 : Int) < (n : Int)) = false := by simp; omega
      go_wp2_with fail
      refine (of_yes a n c xs _ HX1.out h).mono ?_
      rintro e w2 ⟨a2, c2, rfl, ho, hb⟩
      obtain ⟨T, hT⟩ : ∃ T : Int, (if n = 4 then 5 else 6) = T := ⟨_, rfl⟩
      rw [hT]
      unfold ndV
      have HI2 := Lib.hid (Nd.new (W := w2) T (ints_ofB ho))
      have hb' := hb.alloc hb.size (.cells #[.int .u16 T, .slice a2 n c2, .slice none 0 0] 26)
      have HX2 := Lib.hid (HX1.out.below hb')
      have HB2 := Lib.hid (HB1.out.trans (hb'.mono HB1.out.size))
      have HT := Lib.hid hT
      clear hb hb' ho HX1 HB1 hT
      have q := HI2.out.cells
      obtain ⟨p0, p1, p2⟩ := q
      have hcond : (decide ((n : Int) ≠ 4) && decide ((n : Int) ≠ 16)) = false := by rcases h with rfl | rfl <;> rfl
      have HH := Lib.hid h
      clear d0
      rcases h with rfl | rfl
      all_goals
        go_wp2_with fail
        refine (is_any9 T a2 _ c2 none 0 0 _).mono ?_
        rintro e w3 ⟨rfl, hb⟩
        rw [← HT.out]
        simp only [isB]
        have HI3 := Lib.hid (HI2.out.below hb)
        have HX3 := Lib.hid (HX2.out.below hb)
        have HB3 := Lib.hid (HB2.out.trans (hb.mono HB2.out.size))
        clear hb p0 p1 p2
        have q := HI3.out.cells
        obtain ⟨p0, p1, p2⟩ := q
        go_wp2_with fail
        refine (same_any a2 a _ c2 _ c xs xs _ HI3.out.2 HX3.out).mono ?_
        rintro e w4 ⟨rfl, hb⟩
        rw [eqL_true rfl]
        have HB4 := Lib.hid (HB3.out.trans (hb.mono HB3.out.size))
        clear hb
        go_wp2
        go_ret
        exact ⟨rfl, HB4.out⟩
    · have n4 : n ≠ 4 := fun e => h (.inl e)
      have n16 : n ≠ 16 := fun e => h (.inr e)
      have b4 : ((n : Int) != 4) = true := by simp; omega
      have b16 : ((n : Int) != 16) = true := by simp; omega
      have d0 : decide ((100 : Int) < (n : Int)) = false := by simp; omega
      go_enter Tryz.func4, Tryz.ntmps4
      go_wp2_with fail
      refine (awake_any _ HG.out).mono ?_
      rintro e w1 ⟨rfl, hb1⟩
      have HB1 := Lib.hid hb1
      clear hb1
      go_wp2_with fail
      refine (of_no a n c _ n4 n16).mono ?_
      rintro e w2 ⟨rfl, hb⟩
      unfold zeroNode ndV
      have HN := Lib.hid (NdB.new w2 (.int .u16 0) (.slice none 0 0) (.slice none 0 0))
      have hb' := hb.alloc hb.size (.cells #[.int .u16 0, .slice none 0 0, .slice none 0 0] 26)
      have HB2 := Lib.hid (HB1.out.trans (hb'.mono HB1.out.size))
      clear hb hb' HB1 d0 h n4 n16
      have q := HN.out.cell
      obtain ⟨p0, p1, p2⟩ := q
      go_wp2_with fail
      refine (same9_any 0 0 none none none none 0 0 0 0 0 0 [] [] _ (Ints.nil _ _) (Ints.nil _ _)).mono ?_
      rintro e w3 ⟨rfl, hb⟩
      rw [eqL_true rfl]
      have HB3 := Lib.hid (HB2.out.trans (hb.mono HB2.out.size))
      clear hb
      go_wp2
      go_ret
      exact ⟨rfl, HB3.out⟩
  · have d0 : decide ((100 : Int) < (n : Int)) = true := by simp; omega
    go_enter Tryz.func4, Tryz.ntmps4
    go_wp2_with fail
    refine (awake_any _ HG.out).mono ?_
    rintro e w1 ⟨rfl, hb1⟩
    have HB1 := Lib.hid hb1
    have HG1 := Lib.hid (HG.out.below hb1)
    clear hb1
    go_wp2_with fail
    refine (awake_any _ HG1.out).mono ?_
    rintro e w2 ⟨rfl, hb⟩
    have HB2 := Lib.hid (HB1.out.trans (hb.mono HB1.out.size))
    clear hb
    go_wp2
    go_ret
    exact ⟨rfl, HB2.out⟩
end Go.Proofs.YtmncmbbgdkkgaaaGreatDoor

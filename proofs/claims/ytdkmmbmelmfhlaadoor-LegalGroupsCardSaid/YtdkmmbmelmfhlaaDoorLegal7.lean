/- The fixed results, and the walks of the laws LegalMatchesReference and LegalAlone. -/
import Derived.Test.YtdkmmbmelmfhlaaDoorLegal6
namespace Go.Proofs.YtdkmmbmelmfhlaaDoor
open Go.RowKit

theorem lg1 : legalB [15, 10, 3, 0] = true := by decide +kernel
theorem lg2 : legalB [0, 3] = false := by decide +kernel
theorem lg3 : legalB [] = false := by decide +kernel
theorem fr1 : firstI [0, 3] = 1 := by decide +kernel
theorem fr2 : firstI [] = -1 := by decide +kernel
theorem my1 : mayB 1 [] = true := by decide +kernel
theorem gr1 : groupsL [0, 3, 3, 1] = [1, 2, 1] := by decide +kernel

set_option maxHeartbeats 4000000 in
theorem awake_any (w : World) (hA : AloneOk w) : Calls Tryd.prog 7 #[] w fun e w' => e = .returned (.bool true) ∧ Below w.heap.size w w' := by
  have HA := Lib.hid hA
  clear hA
  go_enter Tryd.func7, Tryd.ntmps7
  go_wp2_with fail
  refine (legal_any _ 4 4 [15, 10, 3, 0] _ (HA.out.below ((Below.refl _ _).alloc (Nat.le_refl _) _)) (Ints.at .u8 _ _ [15, 10, 3, 0] 5 4 (by simp) rfl (by omega))).mono ?_
  rintro e w1 ⟨rfl, hb1⟩
  rw [lg1]
  have HB1 := Lib.hid (((Below.refl _ w).alloc (Nat.le_refl _) _).trans (hb1.mono (by simp)))
  have hs1 : w.heap.size ≤ w1.heap.size := HB1.out.size
  clear hb1
  go_wp2_with fail
  refine (legal_any _ 2 2 [0, 3] _ (HA.out.below (HB1.out.alloc hs1 _)) (Ints.at .u8 _ _ [0, 3] 5 2 (by simp) rfl (by omega))).mono ?_
  rintro e w2 ⟨rfl, hb2⟩
  rw [lg2]
  have HB2 := Lib.hid ((HB1.out.alloc hs1 _).trans (hb2.mono (by simp; omega)))
  have hs2 : w.heap.size ≤ w2.heap.size := HB2.out.size
  clear hb2 HB1
  go_wp2_with fail
  refine (legal_any none 0 0 [] _ (HA.out.below HB2.out) (Ints.nil _ _)).mono ?_
  rintro e w3 ⟨rfl, hb3⟩
  rw [lg3]
  have HB3 := Lib.hid (HB2.out.trans (hb3.mono hs2))
  have hs3 : w.heap.size ≤ w3.heap.size := HB3.out.size
  clear hb3 HB2
  go_wp2_with fail
  refine (first_any _ 2 2 [0, 3] _ (HA.out.below (HB3.out.alloc hs3 _)) (Ints.at .u8 _ _ [0, 3] 5 2 (by simp) rfl (by omega))).mono ?_
  rintro e w4 ⟨rfl, hb4⟩
  rw [fr1]
  have HB4 := Lib.hid ((HB3.out.alloc hs3 _).trans (hb4.mono (by simp; omega)))
  have hs4 : w.heap.size ≤ w4.heap.size := HB4.out.size
  clear hb4 HB3
  go_wp2_with fail
  refine (first_any none 0 0 [] _ (HA.out.below HB4.out) (Ints.nil _ _)).mono ?_
  rintro e w5 ⟨rfl, hb5⟩
  rw [fr2]
  have HB5 := Lib.hid (HB4.out.trans (hb5.mono hs4))
  have hs5 : w.heap.size ≤ w5.heap.size := HB5.out.size
  clear hb5 HB4
  go_wp2_with fail
  refine (may_any _ none 0 0 [] _ (HA.out.below HB5.out) (Ints.nil _ _)).mono ?_
  rintro e w6 ⟨rfl, hb6⟩
  rw [my1]
  have HB6 := Lib.hid (HB5.out.trans (hb6.mono hs5))
  have hs6 : w.heap.size ≤ w6.heap.size := HB6.out.size
  clear hb6 HB5
  go_wp2_with fail
  refine (groups_any _ 4 4 [0, 3, 3, 1] _ (HA.out.below (HB6.out.alloc hs6 _)) (Ints.at .u8 _ _ [0, 3, 3, 1] 5 4 (by simp) rfl (by omega)) (by omega)).mono ?_
  rintro e w7 ⟨v, m, rfl, hown, hb7⟩
  rw [gr1] at hown
  obtain ⟨a2, c2, hv2, hs2'⟩ := Ints.own hown
  subst hv2
  have HS := Lib.hid hs2'
  have HB7 := Lib.hid ((HB6.out.alloc hs6 _).trans (hb7.mono (by simp; omega)))
  have hs7 : w.heap.size ≤ w7.heap.size := HB7.out.size
  clear hb7 HB6 hown hs2'
  go_wp2_with fail
  refine (equal_any _ _ _ _ 3 3 [1, 2, 1] [1, 2, 1] _ (HS.out.below ((Below.refl _ _).alloc (Nat.le_refl _) _)) (Ints.at .i64 _ _ [1, 2, 1] 3 3 (by simp) rfl (by omega))).mono ?_
  rintro e w8 ⟨rfl, hb8⟩
  rw [eqL_true rfl]
  have HB8 := Lib.hid ((HB7.out.alloc hs7 _).trans (hb8.mono (by simp; omega)))
  clear hb8 HB7
  go_wp2
  go_ret
  exact ⟨rfl, HB8.out⟩

theorem legal_pos {zs : List Int} (h : 0 < zs.length) : legalB zs = decide (firstI zs < 0) := by
  unfold legalB
  have : decide ((zs.length : Int) > 0) = true := by simp; omega
  rw [this, Bool.true_and]

set_option maxHeartbeats 4000000 in
theorem walk_LegalMatchesReference (a : Option Addr) (n c : Nat) (zs : List Int) (t : Int) (w : World) (hA : AloneOk w) (hx : Ints .u8 w a n c zs) :
    Calls Tryd.prog 3 #[.slice a n c, .int .u8 t] w fun e w' => e = .returned (.bool true) ∧ Below w.heap.size w w' := by
  have hc := hx.cap
  have hl := hx.len
  have HX := Lib.hid hx
  have HA := Lib.hid hA
  clear hx hA
  by_cases hn : 100 < n
  · clear hl
    go_enter Tryd.func3, Tryd.ntmps3
    go_wp2_with fail
    refine (awake_any _ HA.out).mono ?_
    rintro e w1 ⟨rfl, hb1⟩
    have HB1 := Lib.hid hb1
    clear hb1
    go_wp2_with fail
    refine (awake_any _ (HA.out.below HB1.out)).mono ?_
    rintro e w2 ⟨rfl, hb2⟩
    have HB2 := Lib.hid (HB1.out.trans (hb2.mono HB1.out.size))
    clear hb2
    go_wp2
    go_ret
    exact ⟨rfl, HB2.out⟩
  · have hL : (n = 0 ∧ legalB zs = false) ∨ (0 < n ∧ legalB zs = decide (firstI zs < 0)) := by
      by_cases h0 : n = 0
      · refine .inl ⟨h0, ?_⟩
        obtain rfl : zs = [] := List.length_eq_zero_iff.1 (by omega)
        exact lg3
      · exact .inr ⟨by omega, legal_pos (by omega)⟩
    clear hl
    rcases hL with ⟨h0, hL⟩ | ⟨h0, hL⟩
    · subst h0
      have HL := Lib.hid hL
      clear hL
      go_enter Tryd.func3, Tryd.ntmps3
      go_wp2_with fail
      refine (awake_any _ HA.out).mono ?_
      rintro e w1 ⟨rfl, hb1⟩
      have HB1 := Lib.hid hb1
      clear hb1
      go_wp2_with fail
      refine (may_any _ _ _ _ zs _ (HA.out.below HB1.out) (HX.out.below HB1.out)).mono ?_
      rintro e w2 ⟨rfl, hb2⟩
      have HB2 := Lib.hid (HB1.out.trans (hb2.mono HB1.out.size))
      clear hb2 HB1
      go_wp2_with fail
      refine (refmay_any _ _ _ _ zs _ (HX.out.below HB2.out)).mono ?_
      rintro e w' ⟨rfl, rfl⟩
      go_wp2_with fail
      refine (first_any _ _ _ zs _ (HA.out.below HB2.out) (HX.out.below HB2.out)).mono ?_
      rintro e w3 ⟨rfl, hb3⟩
      have HB3 := Lib.hid (HB2.out.trans (hb3.mono HB2.out.size))
      clear hb3 HB2
      go_wp2_with fail
      refine (reffirst_any _ _ _ zs _ (HX.out.below HB3.out)).mono ?_
      rintro e w4 ⟨rfl, hb4⟩
      have HB4 := Lib.hid (HB3.out.trans (hb4.mono HB3.out.size))
      clear hb4 HB3
      go_wp2_with fail
      refine (legal_any _ _ _ zs _ (HA.out.below HB4.out) (HX.out.below HB4.out)).mono ?_
      rintro e w5 ⟨rfl, hb5⟩
      rw [HL.out]
      have HB5 := Lib.hid (HB4.out.trans (hb5.mono HB4.out.size))
      clear hb5 HB4
      go_wp2
      go_ret
      exact ⟨rfl, HB5.out⟩
    · have HL := Lib.hid hL
      clear hL
      go_enter Tryd.func3, Tryd.ntmps3
      go_wp2_with fail
      refine (awake_any _ HA.out).mono ?_
      rintro e w1 ⟨rfl, hb1⟩
      have HB1 := Lib.hid hb1
      clear hb1
      go_wp2_with fail
      refine (may_any _ _ _ _ zs _ (HA.out.below HB1.out) (HX.out.below HB1.out)).mono ?_
      rintro e w2 ⟨rfl, hb2⟩
      have HB2 := Lib.hid (HB1.out.trans (hb2.mono HB1.out.size))
      clear hb2 HB1
      go_wp2_with fail
      refine (refmay_any _ _ _ _ zs _ (HX.out.below HB2.out)).mono ?_
      rintro e w' ⟨rfl, rfl⟩
      go_wp2_with fail
      refine (first_any _ _ _ zs _ (HA.out.below HB2.out) (HX.out.below HB2.out)).mono ?_
      rintro e w3 ⟨rfl, hb3⟩
      have HB3 := Lib.hid (HB2.out.trans (hb3.mono HB2.out.size))
      clear hb3 HB2
      go_wp2_with fail
      refine (reffirst_any _ _ _ zs _ (HX.out.below HB3.out)).mono ?_
      rintro e w4 ⟨rfl, hb4⟩
      have HB4 := Lib.hid (HB3.out.trans (hb4.mono HB3.out.size))
      clear hb4 HB3
      go_wp2_with fail
      refine (legal_any _ _ _ zs _ (HA.out.below HB4.out) (HX.out.below HB4.out)).mono ?_
      rintro e w5 ⟨rfl, hb5⟩
      rw [HL.out]
      have HB5 := Lib.hid (HB4.out.trans (hb5.mono HB4.out.size))
      clear hb5 HB4
      go_wp2_with fail
      refine (reffirst_any _ _ _ zs _ (HX.out.below HB5.out)).mono ?_
      rintro e w6 ⟨rfl, hb6⟩
      have HB6 := Lib.hid (HB5.out.trans (hb6.mono HB5.out.size))
      clear hb6 HB5
      go_wp2
      go_ret
      exact ⟨by simp, HB6.out⟩

end Go.Proofs.YtdkmmbmelmfhlaaDoor

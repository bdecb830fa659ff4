/- address.Bytes. -/
import Derived.Test.YtmncmbbgdkkgaaaGreatDoorAd2
namespace Go.Proofs.YtmncmbbgdkkgaaaGreatDoor
set_option maxRecDepth 100000
set_option linter.unusedVariables false
open Go.RowKit

theorem ints_ofB {w : World} {base : Nat} {a : Option Addr} {n c : Nat} {zs : List Int} (h : w.ownsRow base 5 1 (.slice a n c) n (zs.map (Value.int .u8))) : Ints .u8 w a n c zs := by
  obtain ⟨a', c', hv, hi⟩ := Ints.own h
  simp only [Value.slice.injEq, true_and] at hv
  obtain ⟨rfl, rfl⟩ := hv
  exact hi
set_option maxHeartbeats 4000000 in
theorem bytes_no (t : Int) (a : Option Addr) (n c : Nat) (k : Option Addr) (m d : Nat) (xs : List Int) (w : World) (hx : Ints .u8 w a n c xs) (bx : Byt xs) (hb : isB t n m = false) :
    Calls Tryz.prog 33 #[ndV t a n c k m d] w fun e w' => e = .returned (.tuple #[.slice none 0 0, .bool false]) ∧ Below w.heap.size w w' := by
  have HX := Lib.hid hx
  have HBB := Lib.hid hb
  clear hx hb
  by_cases h : n = 4 ∨ n = 16
  · unfold ndV
    go_enter Tryz.func33, Tryz.ntmps33
    go_wp2_with fail
    obtain ⟨W, hW⟩ : ∃ W, w.alloc (.cells #[.int .u16 t, .slice a n c, .slice k m d] 26) = W := ⟨_, rfl⟩
    rw [hW]
    have HN := Lib.hid (show NdB W w.heap.size _ _ _ from hW ▸ NdB.new w (.int .u16 t) (.slice a n c) (.slice k m d))
    have HB := Lib.hid (show Below w.heap.size w W from hW ▸ (Below.refl _ w).alloc (Nat.le_refl _) _)
    have hsz : W.heap.size = w.heap.size + 1 := by rw [← hW]; simp
    clear hW
    refine (of_yes a n c xs _ (HX.out.below HB.out) h).mono ?_
    rintro e w1 ⟨a', c', rfl, ho, hb1⟩
    have HO := Lib.hid (ints_ofB ho)
    have HN1 := Lib.hid (HN.out.below hb1 (by omega))
    have HB1 := Lib.hid (HB.out.trans (hb1.mono HB.out.size))
    have hs1 : w.heap.size < w1.heap.size := Nat.lt_of_lt_of_le (by omega) hb1.size
    clear ho hb1
    unfold ndV
    have q := HN1.out.cell
    obtain ⟨q0, q1, q2⟩ := q
    obtain ⟨T, hT⟩ : ∃ T : Int, (if n = 4 then 5 else 6) = T := ⟨_, rfl⟩
    rw [hT]
    have HT := Lib.hid hT
    clear hT
    have HB2 := Lib.hid (HB1.out.alloc HB1.out.size (.cells #[.int .u16 T, .slice a' n c', .slice none 0 0] 26))
    go_wp2_with fail
    refine (nsame_any T t a' a none k n c' 0 n c m d xs xs _ (HO.out.below ((Below.refl _ w1).alloc (Nat.le_refl _) _)) (HX.out.below HB2.out) bx bx).mono ?_
    rintro e w2 ⟨rfl, hb2⟩
    have hr : (T == t && eqL xs xs && decide (m = 0)) = false := by
      rw [eqL_true rfl, ← HT.out]
      have := HBB.out
      rcases h with rfl | rfl
      · simp [isB] at this; simp; omega
      · simp [isB] at this; simp; omega
    rw [hr]
    have HB3 := Lib.hid (HB2.out.trans (hb2.mono HB2.out.size))
    clear hb2 hr
    go_wp2
    go_ret2
    exact ⟨rfl, HB3.out⟩
  · unfold ndV
    go_enter Tryz.func33, Tryz.ntmps33
    go_wp2_with fail
    have HB := Lib.hid ((Below.refl _ w).alloc (Nat.le_refl _) (.cells #[.int .u16 t, .slice a n c, .slice k m d] 26))
    refine (of_no a n c _ (by omega) (by omega)).mono ?_
    rintro e w1 ⟨rfl, hb1⟩
    have HB1 := Lib.hid (HB.out.trans (hb1.mono HB.out.size))
    clear hb1
    unfold zeroNode ndV
    have HB2 := Lib.hid (HB1.out.alloc HB1.out.size (.cells #[.int .u16 0, .slice none 0 0, .slice none 0 0] 26))
    go_wp2
    go_ret2
    exact ⟨rfl, HB2.out⟩
set_option maxHeartbeats 4000000 in
theorem bytes_yes (t : Int) (a : Option Addr) (n c : Nat) (k : Option Addr) (m d : Nat) (xs : List Int) (w : World) (hx : Ints .u8 w a n c xs) (bx : Byt xs) (hb : isB t n m = true) :
    Calls Tryz.prog 33 #[ndV t a n c k m d] w fun e w' => ∃ a' c', e = .returned (.tuple #[.slice a' n c', .bool true]) ∧ Ints .u8 w' a' n c' xs ∧ Below w.heap.size w w' := by
  have HX := Lib.hid hx
  have HBB := Lib.hid hb
  have h : n = 4 ∨ n = 16 := by simp [isB] at hb; omega
  clear hx hb
  unfold ndV
  go_enter Tryz.func33, Tryz.ntmps33
  go_wp2_with fail
  obtain ⟨W, hW⟩ : ∃ W, w.alloc (.cells #[.int .u16 t, .slice a n c, .slice k m d] 26) = W := ⟨_, rfl⟩
  rw [hW]
  have HN := Lib.hid (show NdB W w.heap.size _ _ _ from hW ▸ NdB.new w (.int .u16 t) (.slice a n c) (.slice k m d))
  have HB := Lib.hid (show Below w.heap.size w W from hW ▸ (Below.refl _ w).alloc (Nat.le_refl _) _)
  have hsz : W.heap.size = w.heap.size + 1 := by rw [← hW]; simp
  clear hW
  refine (of_yes a n c xs _ (HX.out.below HB.out) h).mono ?_
  rintro e w1 ⟨a', c', rfl, ho, hb1⟩
  have HO := Lib.hid (ints_ofB ho)
  have HN1 := Lib.hid (HN.out.below hb1 (by omega))
  have HB1 := Lib.hid (HB.out.trans (hb1.mono HB.out.size))
  have hs1 : w.heap.size < w1.heap.size := Nat.lt_of_lt_of_le (by omega) hb1.size
  clear ho hb1
  unfold ndV
  have q := HN1.out.cell
  obtain ⟨q0, q1, q2⟩ := q
  obtain ⟨T, hT⟩ : ∃ T : Int, (if n = 4 then 5 else 6) = T := ⟨_, rfl⟩
  rw [hT]
  have HT := Lib.hid hT
  clear hT
  have HB2 := Lib.hid (HB1.out.alloc HB1.out.size (.cells #[.int .u16 T, .slice a' n c', .slice none 0 0] 26))
  have HN2 := Lib.hid (NdB.new w1 (.int .u16 T) (.slice a' n c') (.slice none 0 0))
  go_wp2_with fail
  refine (nsame_any T t a' a none k n c' 0 n c m d xs xs _ (HO.out.below ((Below.refl _ w1).alloc (Nat.le_refl _) _)) (HX.out.below HB2.out) bx bx).mono ?_
  rintro e w2 ⟨rfl, hb2⟩
  have hr : (T == t && eqL xs xs && decide (m = 0)) = true := by
    rw [eqL_true rfl, ← HT.out]
    have := HBB.out
    rcases h with rfl | rfl
    · simp [isB] at this; simp; omega
    · simp [isB] at this; simp; omega
  rw [hr]
  have HB3 := Lib.hid (HB2.out.trans (hb2.mono HB2.out.size))
  have HO2 := Lib.hid ((HO.out.below ((Below.refl _ w1).alloc (Nat.le_refl _) (.cells #[.int .u16 T, .slice a' n c', .slice none 0 0] 26))).below hb2)
  have q := (HN2.out.below hb2 (by simp)).cell
  obtain ⟨r0, r1, r2⟩ := q
  clear hb2 hr q0 q1 q2
  go_wp2
  go_ret2
  exact ⟨a', c', rfl, HO2.out, HB3.out⟩
end Go.Proofs.YtmncmbbgdkkgaaaGreatDoor

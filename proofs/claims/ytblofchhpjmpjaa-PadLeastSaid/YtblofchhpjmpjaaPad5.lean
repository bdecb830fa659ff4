/- The walks of the laws of package pad. -/
import Derived.Test.YtblofchhpjmpjaaPad4
namespace Go.Proofs.Ytblofchhpjmpjaa
open Go.RowKit

theorem nx1 : nextN [1, 0, 0, 0] 1 = 4 := by decide +kernel
theorem nx2 : nextB [1, 0, 0, 0] 1 = true := by decide +kernel
theorem nx3 : nextN [1, 0, 0] 1 = 0 := by decide +kernel
theorem nx4 : nextB [1, 0, 0] 1 = false := by decide +kernel
theorem gp5 : gap 5 = 3 := by decide +kernel
theorem bt7 : [(7 : Int)] ++ List.replicate (gap (1 : Nat)).toNat 0 = [7, 0, 0, 0] := by decide +kernel
theorem byt7 : Byt [7] := fun z hz => by simp at hz; omega
theorem zr0 : zeros [] = true := by decide +kernel
theorem zr1 : zeros [0, 1] = false := by decide +kernel
theorem sz56 : szs [5, 6] = 14 := by decide +kernel
theorem awake_any (w : World) : Calls Try.prog 7 #[] w fun e w' => e = .returned (.bool true) ∧ Below w.heap.size w w' := by
  go_enter Try.func7, Try.ntmps7
  go_wp2_with fail
  refine (next_any _ 4 4 [1, 0, 0, 0] 1 _ (Ints.at .u8 _ _ [1, 0, 0, 0] 5 4 (by simp) rfl (by omega)) (by omega)).mono ?_
  rintro e w' ⟨rfl, rfl⟩
  rw [nx1, nx2]
  go_wp2_with fail
  refine (next_any _ 3 3 [1, 0, 0] 1 _ (Ints.at .u8 _ _ [1, 0, 0] 5 3 (by simp) rfl (by omega)) (by omega)).mono ?_
  rintro e w' ⟨rfl, rfl⟩
  rw [nx3, nx4]
  go_wp2_with fail
  refine (gap_any 5 _ (by omega) (by omega)).mono ?_
  rintro e w' ⟨rfl, rfl⟩
  rw [gp5]
  go_wp2_with fail
  refine (up_any 5 _ (by omega) (by omega)).mono ?_
  rintro e w' ⟨rfl, rfl⟩
  rw [gp5]
  go_wp2_with fail
  refine (sizes_any _ 2 2 [5, 6] _ (Ints.at .i64 _ _ [5, 6] 3 2 (by simp) rfl (by omega)) (by omega) (by decide)).mono ?_
  rintro e w1 ⟨rfl, hb1⟩
  rw [sz56]
  have HB1 := Lib.hid (((((Below.refl _ w).alloc (Nat.le_refl _) _).alloc (by simp) _).alloc (by simp; omega) _).trans (hb1.mono (by simp; omega)))
  clear hb1
  go_wp2_with fail
  refine (bytes_any _ 1 1 [7] _ (Ints.at .u8 _ _ [7] 5 1 (by simp) rfl (by omega)) byt7 (by omega)).mono ?_
  rintro e w2 ⟨v, rfl, hown, hb2⟩
  obtain ⟨a2, c2, hv2, hs2⟩ := Ints.own hown
  subst hv2
  have HB2 := Lib.hid ((HB1.out.alloc HB1.out.size _).trans (hb2.mono (by simp; exact Nat.le_succ_of_le HB1.out.size)))
  have HS2 := Lib.hid hs2
  clear hown hb2 hs2 HB1
  go_wp2_with fail
  refine (same_any _ _ _ _ 4 4 ([7] ++ List.replicate (gap (1 : Nat)).toNat 0) [7, 0, 0, 0] _ (HS2.out.below ((Below.refl _ _).alloc (Nat.le_refl _) _)) (Ints.at .u8 _ _ [7, 0, 0, 0] 5 4 (by simp) rfl (by omega))).mono ?_
  rintro e w3 ⟨rfl, hb3⟩
  have HB3 := Lib.hid ((HB2.out.alloc HB2.out.size _).trans (hb3.mono (by simp; exact Nat.le_succ_of_le HB2.out.size)))
  clear hb3 HB2 HS2
  rw [eqL_true bt7]
  go_wp2_with fail
  refine (zero_any none 0 0 [] _ (Ints.nil _ _)).mono ?_
  rintro e w' ⟨rfl, rfl⟩
  rw [zr0]
  go_wp2_with fail
  refine (zero_any _ 2 2 [0, 1] _ (Ints.at .u8 _ _ [0, 1] 5 2 (by simp) rfl (by omega))).mono ?_
  rintro e w' ⟨rfl, rfl⟩
  rw [zr1]
  go_wp2
  go_ret
  exact ⟨rfl, HB3.out.alloc HB3.out.size _⟩

theorem beq_self_i (x : Int) : (x == x) = true := by simp

/-- PadLeast -/
theorem walk_PadLeast (n m : Int) (w : World) (hn0 : 0 ≤ n) (hn1 : n ≤ 4294967295) (hm0 : 0 ≤ m) (hm1 : m ≤ 4294967295) :
    Calls Try.prog 6 #[.int .u32 n, .int .u32 m] w fun e w' => e = .returned (.bool true) ∧ Below w.heap.size w w' := by
  have hg := gap_bd n
  have hg2 := gap_bd (n + gap n)
  have h1 : (n + gap n) % 4 = 0 := by unfold gap; omega
  have h2 : gap (n + gap n) ≤ 0 := by unfold gap; omega
  have h3 : 4 * m < n ∨ n + gap n ≤ 4 * m := by unfold gap; omega
  have t1 : (((n + gap n) % 4) == 0) = true := by simp [h1]
  clear h1
  rcases h3 with hx | hx
  all_goals
    go_enter Try.func6, Try.ntmps6
    go_wp2_with fail
    refine (awake_any _).mono ?_
    rintro e w1 ⟨rfl, hb1⟩
    have HB1 := Lib.hid hb1
    clear hb1
    go_wp2_with (first
      | (go_at_call 11; refine (up_any _ _ (by omega) (by omega)).mono ?_; rintro e w' ⟨rfl, rfl⟩)
      | (go_at_call 9; refine (gap_any _ _ (by omega) (by omega)).mono ?_; rintro e w' ⟨rfl, rfl⟩))
    go_ret
    exact ⟨rfl, HB1.out⟩

/-- PadNext -/
theorem walk_PadNext (a : Option Addr) (n c : Nat) (zs : List Int) (k : Int) (w : World) (hx : Ints .u8 w a n c zs) :
    Calls Try.prog 4 #[.slice a n c, .int .i64 k] w fun e w' => e = .returned (.bool true) ∧ Below w.heap.size w w' := by
  have hc := hx.cap
  have HX := Lib.hid hx
  clear hx
  by_cases hl : 1000 < n
  · go_enter Try.func4, Try.ntmps4
    go_wp2_with fail
    refine (awake_any _).mono ?_
    rintro e w1 ⟨rfl, hb1⟩
    have HB1 := Lib.hid hb1
    clear hb1
    go_wp2_with fail
    refine (awake_any _).mono ?_
    rintro e w2 ⟨rfl, hb2⟩
    have HB2 := Lib.hid (HB1.out.trans (hb2.mono HB1.out.size))
    clear hb2
    go_wp2
    go_ret
    exact ⟨rfl, HB2.out⟩
  · go_enter Try.func4, Try.ntmps4
    go_wp2_with fail
    refine (awake_any _).mono ?_
    rintro e w1 ⟨rfl, hb1⟩
    have HB1 := Lib.hid hb1
    clear hb1
    go_wp2_with fail
    refine (next_any _ _ _ zs _ _ (HX.out.below HB1.out) (by omega)).mono ?_
    rintro e w' ⟨rfl, rfl⟩
    go_wp2_with fail
    refine (refnext_any _ _ _ zs _ _ (HX.out.below HB1.out) (by omega)).mono ?_
    rintro e w' ⟨rfl, rfl⟩
    go_wp2
    go_ret
    exact ⟨rfl, HB1.out⟩

end Go.Proofs.Ytblofchhpjmpjaa

/- The walk of PolyShifts (printed by polywalk.py). -/
import Derived.Test.YtadlmefdkpbflaaPoly20
namespace Go.Proofs.Ytadlmefdkpbflaa
open Go.RowKit

theorem walk_PolyShifts_big (a : Option Addr) (n c : Nat) (k : Int) (w : World) (hbig : 200 < n ∨ n ≤ 200 ∧ 500 < k) :
    Calls Try.prog 5 #[.slice a n c, .int .i64 k] w fun e w' => e = .returned (.bool true) ∧ Below w.heap.size w w' := by
  have HB := Lib.hid (Below.refl w.heap.size w)
  rcases hbig with h | ⟨h, h2⟩
  · go_enter Try.func5, Try.ntmps5
    go_wp2_with fail
    refine (awake_any _).mono ?_
    rintro e w1 ⟨rfl, hb⟩
    have hbb := hb
    replace HB := Lib.hid (tr HB.out hbb)
    clear hb hbb
    go_wp2_with fail
    refine (awake_any _).mono ?_
    rintro e w2 ⟨rfl, hb⟩
    have hbb := hb
    replace HB := Lib.hid (tr HB.out hbb)
    clear hb hbb
    go_wp2
    go_ret
    exact ⟨rfl, HB.out⟩
  · go_enter Try.func5, Try.ntmps5
    go_wp2_with fail
    refine (awake_any _).mono ?_
    rintro e w1 ⟨rfl, hb⟩
    have hbb := hb
    replace HB := Lib.hid (tr HB.out hbb)
    clear hb hbb
    go_wp2_with fail
    refine (awake_any _).mono ?_
    rintro e w2 ⟨rfl, hb⟩
    have hbb := hb
    replace HB := Lib.hid (tr HB.out hbb)
    clear hb hbb
    go_wp2
    go_ret
    exact ⟨rfl, HB.out⟩

theorem walk_PolyShifts_neg (a : Option Addr) (n c : Nat) (k : Int) (w : World) (hn : n ≤ 200) (hk : k < 0) :
    Calls Try.prog 5 #[.slice a n c, .int .i64 k] w fun e w' => e = .returned (.bool true) ∧ Below w.heap.size w w' := by
  have HB := Lib.hid (Below.refl w.heap.size w)
  have hsb : Hid (shiftB k = false) := by unfold Hid shiftB; simp; omega
  have hob : Hid (onesB k = false) := by unfold Hid onesB; simp; omega
  go_enter Try.func5, Try.ntmps5
  go_wp2_with fail
  refine (awake_any _).mono ?_
  rintro e w1 ⟨rfl, hb⟩
  have hbb := hb
  replace HB := Lib.hid (tr HB.out hbb)
  clear hb hbb
  go_wp2_with fail
  refine (shift_no _ _ _ _ _ hsb.out).mono ?_
  rintro e w' ⟨rfl, rfl⟩
  go_wp2_with fail
  refine (ones_no _ _ hob.out).mono ?_
  rintro e w' ⟨rfl, rfl⟩
  go_wp2
  go_ret
  exact ⟨rfl, HB.out⟩

set_option maxHeartbeats 8000000 in
theorem walk_PolyShifts_main (a : Option Addr) (n c k : Nat) (xs : List Int) (w : World) (hx : Ints .u8 w a n c xs) (hB : Byt xs) (hn : n ≤ 200) (hk0 : k ≤ 500) :
    Calls Try.prog 5 #[.slice a n c, .int .i64 k] w fun e w' => e = .returned (.bool true) ∧ Below w.heap.size w w' := by
  obtain ⟨i0, hi, hz0, hz1, hz2⟩ := info_parts info_u8
  have hcc := hx.cap
  have hs_x := sz_ints hx
  have hs_k := sz_shl_le (toN xs) k
  have HB := Lib.hid (Below.refl w.heap.size w)
  have HX := Lib.hid hx
  have HBX := Lib.hid hB
  clear hx hB
  go_enter Try.func5, Try.ntmps5
  go_wp2_with fail
  refine (awake_any _).mono ?_
  rintro e w1 ⟨rfl, hb⟩
  have hbb := hb
  replace HX := Lib.hid (HX.out.below hbb)
  replace HB := Lib.hid (tr HB.out hbb)
  clear hb hbb
  go_wp2_with (first | (at_make; refine wpList_make_full _ rfl _ _ 24 rfl w1.heap.size 5 i0 (.int .u8 0) 1 Try.underlying24 hi hz0 hz1 .i64 .i64 _ _ k rfl rfl rfl rfl (by rw [hz2]; omega) (by unfold maxLen; omega) (Nat.le_refl _) ?_; intro w2 hown hgrow; rw [zeros_cells] at hown; have HBW := Lib.hid (below_grown hgrow rfl); have HO := Lib.hid hown; have hs2 := hgrow.size; clear hown hgrow) | (at_builtin; refine append_own_any _ rfl _ _ 24 rfl w1.heap.size 5 i0 (.int .u8 0) 1 Try.underlying24 hi hz0 hz1 hz2 rfl _ _ _ rfl (HO.out.alloc _) _ _ _ [.int .u8 1] rfl (one_sl w2 1 5) (ints_oneCell .u8 [1]) (by unfold maxLen; omega) (by omega) (by simp; omega) ?_; intro v3 w3 hown hgrow; have hown2 := hown.out; rw [show [Value.int .u8 1] = [(1 : Int)].map (Value.int .u8) from rfl, ← List.map_append] at hown2; obtain ⟨a3, c3, hv, hI⟩ := Ints.own hown2; subst hv; have HZ0 := Lib.hid hI; have HBb := Lib.hid ((HBW.out.alloc hs2 (.cells #[.int .u8 1] 5)).grown hgrow.out (by simp; omega) (fun k' hk' => ((HO.out.alloc (.cells #[.int .u8 1] 5)).lt k' hk').1)); clear hown hgrow hown2 hI HO HBW hs2))
  replace HX := Lib.hid (HX.out.below HBb.out)
  replace HB := Lib.hid (tr HB.out HBb.out)
  have HZ : Hid (Ints .u8 w3 a3 (k + 1) c3 (List.replicate k 0 ++ [1])) := HZ0
  have hcz := HZ.out.cap
  clear HZ0 HBb
  go_wp2_with fail
  refine (ones_nat k _ (by omega)).mono ?_
  rintro e w4 ⟨a4, c4, rfl, hI, hb⟩
  have hbb := hb
  replace HX := Lib.hid (HX.out.below hbb)
  replace HZ := Lib.hid (HZ.out.below hbb)
  replace HB := Lib.hid (tr HB.out hbb)
  have HN := Lib.hid (hI)
  clear hb hbb
  have hcn := HN.out.cap
  clear hI
  go_wp2_with (at_make; refine wpList_make_full _ rfl _ _ 22 rfl w4.heap.size 5 i0 (.int .u8 0) 1 Try.underlying22 hi hz0 hz1 .i64 .i64 _ _ k rfl rfl rfl rfl (by rw [hz2]; omega) (by unfold maxLen; omega) (Nat.le_refl _) ?_; intro w5 hown hgrow; rw [zeros_cells] at hown; have HBW := Lib.hid (below_grown hgrow rfl); have HK := Lib.hid (blk_of_own hown); clear hown hgrow)
  go_loopw [9] (fun i wr => ∃ j : Nat, j ≤ k ∧ i = .int .i64 j ∧ Below w4.heap.size w4 wr ∧ Blk wr w4.heap.size (onesL j k)) (fun i _ => k - (intOf i).toNat)
  case atStart => exact ⟨0, Nat.zero_le _, rfl, HBW.out, by rw [show onesL 0 k = List.replicate k 0 by simp [onesL]]; exact HK.out⟩
  case round =>
    clear HBW HK
    obtain ⟨j, hj, rfl, hbw, hk⟩ := hrel
    have HW := Lib.hid hbw
    have HK := Lib.hid hk
    clear hbw hk
    by_cases hlt : j < k
    · have h2 := HK.out.cell (i := j) (by rw [onesL_length (by omega)]; exact hlt)
      have h3 := HK.out.frozen j
      have hst := Lib.hid (onesL_set hlt)
      go_wp2
      go_roundw
      case rel => exact ⟨j + 1, by omega, by go_num, HW.out.setCell (p := ⟨w4.heap.size, j, none⟩) (Nat.le_refl _) _, by rw [← hst.out]; exact HK.out.set j 1⟩
      case measure => simp [intOf]; omega
    · obtain rfl : j = k := by omega
      replace HX := Lib.hid (HX.out.below HW.out)
      replace HZ := Lib.hid (HZ.out.below HW.out)
      replace HN := Lib.hid (HN.out.below HW.out)
      replace HB := Lib.hid (tr HB.out HW.out)
      have HA := Lib.hid (HK.out.ints (n := j) (by rw [onesL_length (by omega)]) (by omega))
      rw [onesL_full] at HA
      clear HK HW hlt hj
      go_wp2_with fail
      refine (shift_yes _ _ _ j _ _ HX.out HBX.out (by omega) (by omega)).mono ?_
      rintro e w21 ⟨g_s1, rfl, hg, hk, hb⟩
      have hs_s1 : sz (toN xs <<< j) ≤ 4000 := by
        omega
      have hbb := hb
      replace HX := Lib.hid (HX.out.below hbb)
      replace HZ := Lib.hid (HZ.out.below hbb)
      replace HN := Lib.hid (HN.out.below hbb)
      replace HA := Lib.hid (HA.out.below hbb)
      replace HB := Lib.hid (tr HB.out hbb)
      have HS := Lib.hid (hk.ints (n := sz (toN xs <<< j)) (ofN_length _) (by omega))
      clear hb hbb
      clear hk hg
      go_wp2_with fail
      refine (refshift_any _ _ _ j _ _ HX.out HBX.out (by omega) (by omega)).mono ?_
      rintro e w22 ⟨a_2, c_2, rfl, hI, hb⟩
      have hbb := hb
      replace HX := Lib.hid (HX.out.below hbb)
      replace HZ := Lib.hid (HZ.out.below hbb)
      replace HN := Lib.hid (HN.out.below hbb)
      replace HA := Lib.hid (HA.out.below hbb)
      replace HS := Lib.hid (HS.out.below hbb)
      replace HB := Lib.hid (tr HB.out hbb)
      have HR := Lib.hid (hI)
      clear hb hbb
      clear hI
      go_wp2_with fail
      refine (lawsame_any _ _ _ _ _ _ _ _ _ HS.out HR.out).mono ?_
      rintro e w23 ⟨rfl, hb⟩
      rw [eqL_true rfl]
      have hbb := hb
      clear HS HR
      replace HX := Lib.hid (HX.out.below hbb)
      replace HZ := Lib.hid (HZ.out.below hbb)
      replace HN := Lib.hid (HN.out.below hbb)
      replace HA := Lib.hid (HA.out.below hbb)
      replace HB := Lib.hid (tr HB.out hbb)
      clear hb hbb
      go_wp2_with fail
      refine (shift_yes _ _ _ j _ _ HX.out HBX.out (by omega) (by omega)).mono ?_
      rintro e w24 ⟨g_s2, rfl, hg, hk, hb⟩
      have hs_s2 : sz (toN xs <<< j) ≤ 4000 := by
        omega
      have hbb := hb
      replace HX := Lib.hid (HX.out.below hbb)
      replace HZ := Lib.hid (HZ.out.below hbb)
      replace HN := Lib.hid (HN.out.below hbb)
      replace HA := Lib.hid (HA.out.below hbb)
      replace HB := Lib.hid (tr HB.out hbb)
      have HS := Lib.hid (hk.ints (n := sz (toN xs <<< j)) (ofN_length _) (by omega))
      clear hb hbb
      clear hk hg
      go_wp2_with fail
      refine (mul_any _ _ _ _ _ _ _ _ _ HX.out HBX.out HZ.out ((Byt.replicate j).append (bytd (by decide))) (by omega) (by omega)).mono ?_
      rintro e w25 ⟨g_m, rfl, hg, hk, hb⟩
      rw [toN_append_zeros, show toN [1] = 1 from rfl, cmul_comm, cmul_shl_left, cmul_one_left] at hk
      rw [toN_append_zeros, show toN [1] = 1 from rfl, cmul_comm, cmul_shl_left, cmul_one_left]
      have hs_m : sz (toN xs <<< j) ≤ 4000 := by
        omega
      have hbb := hb
      replace HX := Lib.hid (HX.out.below hbb)
      replace HZ := Lib.hid (HZ.out.below hbb)
      replace HN := Lib.hid (HN.out.below hbb)
      replace HA := Lib.hid (HA.out.below hbb)
      replace HS := Lib.hid (HS.out.below hbb)
      replace HB := Lib.hid (tr HB.out hbb)
      have HM := Lib.hid (hk.ints (n := sz (toN xs <<< j)) (ofN_length _) (by omega))
      clear hb hbb
      clear hk hg
      go_wp2_with fail
      refine (lawsame_any _ _ _ _ _ _ _ _ _ HS.out HM.out).mono ?_
      rintro e w26 ⟨rfl, hb⟩
      rw [eqL_true rfl]
      have hbb := hb
      clear HS HM
      replace HX := Lib.hid (HX.out.below hbb)
      replace HZ := Lib.hid (HZ.out.below hbb)
      replace HN := Lib.hid (HN.out.below hbb)
      replace HA := Lib.hid (HA.out.below hbb)
      replace HB := Lib.hid (tr HB.out hbb)
      clear hb hbb
      go_wp2_with fail
      refine (lawsame_any _ _ _ _ _ _ _ _ _ HN.out HA.out).mono ?_
      rintro e w27 ⟨rfl, hb⟩
      rw [eqL_true rfl]
      have hbb := hb
      replace HX := Lib.hid (HX.out.below hbb)
      replace HZ := Lib.hid (HZ.out.below hbb)
      replace HN := Lib.hid (HN.out.below hbb)
      replace HA := Lib.hid (HA.out.below hbb)
      replace HB := Lib.hid (tr HB.out hbb)
      clear hb hbb
      go_wp2
      go_ret
      exact ⟨rfl, HB.out⟩

theorem walk_PolyShifts (a : Option Addr) (n c : Nat) (xs : List Int) (k : Int) (w : World) (hx : Ints .u8 w a n c xs) (hB : Byt xs) :
    Calls Try.prog 5 #[.slice a n c, .int .i64 k] w fun e w' => e = .returned (.bool true) ∧ Below w.heap.size w w' := by
  by_cases hbig : 200 < n ∨ n ≤ 200 ∧ 500 < k
  · exact walk_PolyShifts_big a n c k w hbig
  · by_cases h0 : k < 0
    · exact walk_PolyShifts_neg a n c k w (by omega) h0
    · obtain ⟨j, rfl⟩ : ∃ j : Nat, k = j := ⟨k.toNat, by omega⟩
      exact walk_PolyShifts_main a n c j xs w hx hB (by omega) (by omega)
end Go.Proofs.Ytadlmefdkpbflaa

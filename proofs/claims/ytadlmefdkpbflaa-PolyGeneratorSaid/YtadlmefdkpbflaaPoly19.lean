/- The walk of PolyGenerator (printed by polywalk.py). -/
import Derived.Test.YtadlmefdkpbflaaPoly18
namespace Go.Proofs.Ytadlmefdkpbflaa
open Go.RowKit

theorem walk_PolyGenerator_big (a : Option Addr) (n c k : Nat) (w : World) (h : 200 < n) :
    Calls Try.prog 7 #[.slice a n c, .int .u8 k] w fun e w' => e = .returned (.bool true) ∧ Below w.heap.size w w' := by
  have HB := Lib.hid (Below.refl w.heap.size w)
  · go_enter Try.func7, Try.ntmps7
    go_wp2_with fail
    refine (awake_any _).mono ?_
    rintro e w1 ⟨rfl, hb⟩
    have hbb := hb
    replace HB := Lib.hid (tr HB.out hbb)
    clear hb hbb
    go_wp2_with fail
    refine (awake_any _).mono ?_
    rintro e w2 ⟨rfl, hb⟩
    have hbb := hb
    replace HB := Lib.hid (tr HB.out hbb)
    clear hb hbb
    go_wp2
    go_ret
    exact ⟨rfl, HB.out⟩

set_option maxHeartbeats 8000000 in
theorem walk_PolyGenerator_main (a : Option Addr) (n c k : Nat) (xs : List Int) (w : World) (hx : Ints .u8 w a n c xs) (hB : Byt xs) (hn : n ≤ 200) (hk0 : k < 256) :
    Calls Try.prog 7 #[.slice a n c, .int .u8 k] w fun e w' => e = .returned (.bool true) ∧ Below w.heap.size w w' := by
  have hcc := hx.cap
  have hs_x := sz_ints hx
  have HB := Lib.hid (Below.refl w.heap.size w)
  have HX0 := Lib.hid hx
  have HBX := Lib.hid hB
  clear hx hB
  go_enter Try.func7, Try.ntmps7
  go_wp2_with fail
  refine (awake_any _).mono ?_
  rintro e w1 ⟨rfl, hb⟩
  have hbb := hb
  replace HB := Lib.hid (tr HB.out hbb)
  clear hb hbb
  go_wp2_with fail
  refine (generator_any _).mono ?_
  rintro e w2 ⟨g1, rfl, hg, hk, hb⟩
  have HKG := Lib.hid hk
  have hgw : w.heap.size ≤ g1 := Nat.le_trans HB.out.size hg
  rw [sgen]
  have hbb := hb
  replace HB := Lib.hid (tr HB.out hbb)
  clear hb hbb
  clear hg hk
  go_wp2
  go_loopw [6] (fun i wr => ∃ j : Nat, j ≤ 33 ∧ i = .int .i64 j ∧ Below w.heap.size w wr ∧ ∃ ys, Blk wr g1 ys ∧ ys.length = 33) (fun i _ => 33 - (intOf i).toNat)
  case atStart => exact ⟨0, Nat.zero_le _, rfl, HB.out, _, HKG.out, by rw [ofN_length, sgen]⟩
  case round =>
    clear HB HKG
    obtain ⟨j, hj, rfl, hbw, ys, hk, hyl⟩ := hrel
    have HW := Lib.hid hbw
    have HK := Lib.hid hk
    have HYL := Lib.hid hyl
    clear hbw hk hyl
    by_cases hlt : j < 33
    · have h2 := HK.out.cell (i := j) (by rw [HYL.out]; exact hlt)
      have h3 := HK.out.frozen j
      go_wp2
      go_roundw
      case rel => exact ⟨j + 1, by omega, by go_num, HW.out.setCell (p := ⟨g1, j, none⟩) hgw _, _, HK.out.set j 0, by simp [HYL.out]⟩
      case measure => simp [intOf]; omega
    · obtain rfl : j = 33 := by omega
      have HX := Lib.hid (HX0.out.below HW.out)
      have HB : Hid (Below w.heap.size w wr) := HW
      clear HK HYL HW hlt hj
      go_wp2_with fail
      refine (generator_any _).mono ?_
      rintro e w21 ⟨g2, rfl, hg, hk, hb⟩
      rw [sgen]
      have hbb := hb
      replace HX := Lib.hid (HX.out.below hbb)
      replace HB := Lib.hid (tr HB.out hbb)
      have HH := Lib.hid (hk.ints (n := 33) (by rw [ofN_length, sgen]) (by omega))
      clear hb hbb
      clear hg hk
      go_wp2_with fail
      refine (mul_any _ _ _ _ _ _ (ofN (genAt 18)) _ _ HH.out (ofN_byt _) HX.out HBX.out (by omega) (by omega)).mono ?_
      rintro e w22 ⟨g_m, rfl, hg, hk, hb⟩
      simp only [toN_ofN] at hk ⊢
      have hs_m : sz (cmul (genAt 18) (toN xs)) ≤ 4000 := by
        have := sz_cmul_le (genAt 18) (toN xs); rw [sgen] at this; omega
      have hbb := hb
      replace HX := Lib.hid (HX.out.below hbb)
      replace HH := Lib.hid (HH.out.below hbb)
      replace HB := Lib.hid (tr HB.out hbb)
      have HM := Lib.hid (hk.ints (n := sz (cmul (genAt 18) (toN xs))) (ofN_length _) (by omega))
      clear hb hbb
      clear hk hg
      go_wp2_with fail
      refine (mod_yes _ _ _ _ _ _ _ (ofN (genAt 18)) _ HM.out (ofN_byt _) HH.out (ofN_byt _) (by omega) (by omega) (by rw [toN_ofN]; decide +kernel)).mono ?_
      rintro e w23 ⟨g3, r3, rfl, hm, hg, hk, hb⟩
      rw [toN_ofN, toN_ofN] at hm
      obtain rfl := isMod_mul (by decide +kernel) hm
      rw [show sz 0 = 0 from rfl]
      have hbb := hb
      clear HM
      replace HX := Lib.hid (HX.out.below hbb)
      replace HH := Lib.hid (HH.out.below hbb)
      replace HB := Lib.hid (tr HB.out hbb)
      clear hb hbb
      clear hm hg hk
      go_wp2_with fail
      refine (shift_yes _ _ _ k [1] _ (Ints.at .u8 w23 _ [1] _ 1 rfl rfl (by omega)) (bytd (by decide)) (by omega) (by omega)).mono ?_
      rintro e w24 ⟨g_s, rfl, hg, hk, hb⟩
      rw [show toN [1] = 1 from rfl] at hk ⊢
      have hs_s : sz (1 <<< k) ≤ 4000 := by
        exact Nat.le_trans (sz_le (n := k + 1) (by rw [Nat.one_shiftLeft]; exact Nat.pow_lt_pow_right (by omega) (by omega))) (by omega)
      have hbb := (al (Below.refl _ w23) (.cells #[.int .u8 1] 5)).trans (hb.mono (by simp))
      replace HX := Lib.hid (HX.out.below hbb)
      replace HH := Lib.hid (HH.out.below hbb)
      replace HB := Lib.hid (tr HB.out hbb)
      have HS := Lib.hid (hk.ints (n := sz (1 <<< k)) (ofN_length _) (by omega))
      clear hb hbb
      clear hk hg
      go_wp2_with fail
      refine (mod_yes _ _ _ _ _ _ _ (ofN (genAt 18)) _ HS.out (ofN_byt _) HH.out (ofN_byt _) (by omega) (by omega) (by rw [toN_ofN]; decide +kernel)).mono ?_
      rintro e w25 ⟨g4, r4, rfl, hm, hg, hk, hb⟩
      rw [toN_ofN, toN_ofN] at hm
      have hpos : 0 < sz r4 := Nat.pos_of_ne_zero (fun e => gen_rest hm (sz_zero_iff.1 e))
      have hbb := hb
      clear HS
      replace HX := Lib.hid (HX.out.below hbb)
      replace HH := Lib.hid (HH.out.below hbb)
      replace HB := Lib.hid (tr HB.out hbb)
      clear hb hbb
      clear hm hg hk
      go_wp2_with fail
      refine (refgenerator_any _).mono ?_
      rintro e w26 ⟨a5, c5, rfl, hI, hb⟩
      rw [sgen] at hI ⊢
      have hbb := hb
      replace HX := Lib.hid (HX.out.below hbb)
      replace HH := Lib.hid (HH.out.below hbb)
      replace HB := Lib.hid (tr HB.out hbb)
      have HRG := Lib.hid (hI)
      clear hb hbb
      clear hI
      go_wp2_with fail
      refine (lawsame_any _ _ _ _ _ _ _ _ _ HH.out HRG.out).mono ?_
      rintro e w27 ⟨rfl, hb⟩
      rw [eqL_true rfl]
      have hbb := hb
      replace HX := Lib.hid (HX.out.below hbb)
      replace HH := Lib.hid (HH.out.below hbb)
      replace HRG := Lib.hid (HRG.out.below hbb)
      replace HB := Lib.hid (tr HB.out hbb)
      clear hb hbb
      go_wp2
      go_ret
      exact ⟨rfl, HB.out⟩

theorem walk_PolyGenerator (a : Option Addr) (n c : Nat) (xs : List Int) (t : Int) (w : World) (hx : Ints .u8 w a n c xs) (hB : Byt xs) (h0 : 0 ≤ t) (h1 : t < 256) :
    Calls Try.prog 7 #[.slice a n c, .int .u8 t] w fun e w' => e = .returned (.bool true) ∧ Below w.heap.size w w' := by
  obtain ⟨k, rfl⟩ : ∃ k : Nat, t = k := ⟨t.toNat, by omega⟩
  by_cases h : 200 < n
  · exact walk_PolyGenerator_big a n c k w h
  · exact walk_PolyGenerator_main a n c k xs w hx hB (by omega) (by omega)
end Go.Proofs.Ytadlmefdkpbflaa

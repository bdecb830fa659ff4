/- The walk of PolyBytes (printed by polywalk.py). -/
import Derived.Test.YtadlmefdkpbflaaPoly18
namespace Go.Proofs.Ytadlmefdkpbflaa
open Go.RowKit

theorem sz_ofP (zs : List Int) : sz (ofP zs) ≤ 8 * zs.length := by have := sz_toN_le (ofL zs (8 * zs.length)); rw [ofL_length] at this; exact this
theorem sz_shl_le (x k : Nat) : sz (x <<< k) ≤ sz x + k := sz_le (by rw [Nat.shiftLeft_eq, Nat.pow_add]; exact Nat.mul_lt_mul_of_pos_right (lt_sz x) (Nat.two_pow_pos _))

theorem walk_PolyBytes_big (a b : Option Addr) (n c m d : Nat) (w : World) (hbig : 100 < n ∨ n ≤ 100 ∧ 100 < m) :
    Calls Try.prog 6 #[.slice a n c, .slice b m d] w fun e w' => e = .returned (.bool true) ∧ Below w.heap.size w w' := by
  have HB := Lib.hid (Below.refl w.heap.size w)
  rcases hbig with h | ⟨h, h2⟩
  · go_enter Try.func6, Try.ntmps6
    go_wp2_with fail
    refine (awake_any _).mono ?_
    rintro e w1 ⟨rfl, hb⟩
    have hbb := hb
    replace HB := Lib.hid (tr HB.out hbb)
    clear hb hbb
    go_wp2_with fail
    refine (awake_any _).mono ?_
    rintro e w2 ⟨rfl, hb⟩
    have hbb := hb
    replace HB := Lib.hid (tr HB.out hbb)
    clear hb hbb
    go_wp2
    go_ret
    exact ⟨rfl, HB.out⟩
  · go_enter Try.func6, Try.ntmps6
    go_wp2_with fail
    refine (awake_any _).mono ?_
    rintro e w1 ⟨rfl, hb⟩
    have hbb := hb
    replace HB := Lib.hid (tr HB.out hbb)
    clear hb hbb
    go_wp2_with fail
    refine (awake_any _).mono ?_
    rintro e w2 ⟨rfl, hb⟩
    have hbb := hb
    replace HB := Lib.hid (tr HB.out hbb)
    clear hb hbb
    go_wp2
    go_ret
    exact ⟨rfl, HB.out⟩

set_option maxHeartbeats 8000000 in
theorem walk_PolyBytes_yes (a b : Option Addr) (n c m d : Nat) (xs ys : List Int) (w : World) (hx : Ints .u8 w a n c xs) (hB : Byt xs) (hy : Ints .u8 w b m d ys) (hB2 : Byt ys) (hn : n ≤ 100) (hm : m ≤ 100) (h0 : sz (ofP xs) ≤ 32) :
    Calls Try.prog 6 #[.slice a n c, .slice b m d] w fun e w' => e = .returned (.bool true) ∧ Below w.heap.size w w' := by
  obtain ⟨i0, hi, hz0, hz1, hz2⟩ := info_parts info_u8
  have hcc := hx.cap
  have hdd := hy.cap
  have hs_x := sz_ofP xs
  have hs_y := sz_ofP ys
  have hap := ofP_append xs ys
  rw [hx.len] at hs_x
  rw [hy.len] at hs_y hap
  have HAP := Lib.hid hap
  have HB := Lib.hid (Below.refl w.heap.size w)
  have HX := Lib.hid hx
  have HY := Lib.hid hy
  have HBX := Lib.hid hB
  have HBY := Lib.hid hB2
  have hsd : decide (((sz (ofP xs) : Nat) : Int) ≤ 32) = true := by simp; omega
  clear hx hB hy hB2 hap
  go_enter Try.func6, Try.ntmps6
  go_wp2_with fail
  refine (awake_any _).mono ?_
  rintro e w1 ⟨rfl, hb⟩
  have hbb := hb
  replace HX := Lib.hid (HX.out.below hbb)
  replace HY := Lib.hid (HY.out.below hbb)
  replace HB := Lib.hid (tr HB.out hbb)
  clear hb hbb
  go_wp2_with fail
  refine (of_any _ _ _ _ _ HX.out HBX.out (by omega)).mono ?_
  rintro e w2 ⟨g_p, rfl, hg, hk, hb⟩
  have hs_p : sz (ofP xs) ≤ 4000 := by
    omega
  have hbb := hb
  replace HX := Lib.hid (HX.out.below hbb)
  replace HY := Lib.hid (HY.out.below hbb)
  replace HB := Lib.hid (tr HB.out hbb)
  have HP := Lib.hid (hk.ints (n := sz (ofP xs)) (ofN_length _) (by omega))
  clear hb hbb
  clear hk hg
  go_wp2_with fail
  refine (word_yes _ _ _ (ofN (ofP xs)) _ HP.out (ofN_byt _) (by omega) (by rw [toN_ofN]; exact h0)).mono ?_
  rintro e w3 ⟨rfl, hb⟩
  rw [toN_ofN]
  have hbb := hb
  replace HX := Lib.hid (HX.out.below hbb)
  replace HY := Lib.hid (HY.out.below hbb)
  replace HP := Lib.hid (HP.out.below hbb)
  replace HB := Lib.hid (tr HB.out hbb)
  clear hb hbb
  go_wp2_with fail
  refine (refof_any _ _ _ _ _ HX.out HBX.out (by omega)).mono ?_
  rintro e w4 ⟨a_1, c_1, rfl, hI, hb⟩
  have hbb := hb
  replace HX := Lib.hid (HX.out.below hbb)
  replace HY := Lib.hid (HY.out.below hbb)
  replace HP := Lib.hid (HP.out.below hbb)
  replace HB := Lib.hid (tr HB.out hbb)
  clear hb hbb
  clear hI
  go_wp2_with fail
  refine (refof_any _ _ _ _ _ HX.out HBX.out (by omega)).mono ?_
  rintro e w5 ⟨a_2, c_2, rfl, hI, hb⟩
  have hbb := hb
  replace HX := Lib.hid (HX.out.below hbb)
  replace HY := Lib.hid (HY.out.below hbb)
  replace HP := Lib.hid (HP.out.below hbb)
  replace HB := Lib.hid (tr HB.out hbb)
  have HR := Lib.hid (hI)
  clear hb hbb
  clear hI
  go_wp2_with fail
  refine (lawsame_any _ _ _ _ _ _ _ _ _ HP.out HR.out).mono ?_
  rintro e w6 ⟨rfl, hb⟩
  rw [eqL_true rfl]
  have hbb := hb
  clear HR
  replace HX := Lib.hid (HX.out.below hbb)
  replace HY := Lib.hid (HY.out.below hbb)
  replace HP := Lib.hid (HP.out.below hbb)
  replace HB := Lib.hid (tr HB.out hbb)
  clear hb hbb
  go_wp2_with fail
  refine (refof_any _ _ _ _ _ HX.out HBX.out (by omega)).mono ?_
  rintro e w7 ⟨a_3, c_3, rfl, hI, hb⟩
  have hbb := hb
  replace HX := Lib.hid (HX.out.below hbb)
  replace HY := Lib.hid (HY.out.below hbb)
  replace HP := Lib.hid (HP.out.below hbb)
  replace HB := Lib.hid (tr HB.out hbb)
  have HR := Lib.hid (hI)
  clear hb hbb
  clear hI
  go_wp2_with fail
  refine (refword_any _ _ _ (ofN (ofP xs)) _ HR.out (ofN_byt _)).mono ?_
  rintro e w' ⟨rfl, rfl⟩
  rw [toN_ofN]
  clear HR
  go_wp2_with (first | (at_builtin; refine append_own_any _ rfl _ _ 22 rfl w7.heap.size 5 i0 (.int .u8 0) 1 Try.underlying22 hi hz0 hz1 hz2 rfl (.slice (some ⟨w7.heap.size, 0, none⟩) 0 0) 0 [] rfl (own_nothing w7) a n c (xs.map (Value.int .u8)) rfl (HX.out.below (al (Below.refl _ w7) _)) (ints_oneCell _ _) (by unfold maxLen; omega) (by omega) (by simp) ?_; intro v2 w40 hown hgrow; have hown2 := hown.out; rw [Nat.zero_add, List.nil_append] at hown2; obtain ⟨a40, c40, hv, _⟩ := Ints.own hown2; subst hv; have HO := Lib.hid hown2; have hb1 := below_app hgrow.out; have HBa := Lib.hid hb1; have HY4 := Lib.hid (HY.out.below hb1); clear hown hgrow hown2 hb1) | (at_builtin; refine append_own_any _ rfl _ _ 22 rfl w7.heap.size 5 i0 (.int .u8 0) 1 Try.underlying22 hi hz0 hz1 hz2 rfl (.slice a40 n c40) n (xs.map (Value.int .u8)) rfl HO.out b m d (ys.map (Value.int .u8)) rfl HY4.out (ints_oneCell _ _) (by unfold maxLen; omega) (by omega) (by have := HBa.out.size; omega) ?_; intro v3 w41 hown hgrow; have hown2 := hown.out; rw [← List.map_append] at hown2; obtain ⟨a41, c41, hv, hI⟩ := Ints.own hown2; subst hv; have HA0 := Lib.hid hI; have HBb := Lib.hid (HBa.out.grown hgrow.out HBa.out.size (fun k' hk' => (HO.out.lt k' hk').1)); clear hown hgrow hown2 hI HO HBa HY4))
  replace HX := Lib.hid (HX.out.below HBb.out)
  replace HY := Lib.hid (HY.out.below HBb.out)
  replace HP := Lib.hid (HP.out.below HBb.out)
  replace HB := Lib.hid (tr HB.out HBb.out)
  have HA : Hid (Ints .u8 w41 a41 (n + m) c41 (xs ++ ys)) := HA0
  have hca := HA.out.cap
  have hs_a := sz_ofP (xs ++ ys)
  rw [HA.out.len] at hs_a
  clear HA0 HBb
  go_wp2_with fail
  refine (of_any _ _ _ _ _ HA.out (HBX.out.append HBY.out) (by omega)).mono ?_
  rintro e w42 ⟨g_a, rfl, hg, hk, hb⟩
  have hs_a : sz (ofP (xs ++ ys)) ≤ 4000 := by
    omega
  have hbb := hb
  clear HA
  replace HX := Lib.hid (HX.out.below hbb)
  replace HY := Lib.hid (HY.out.below hbb)
  replace HP := Lib.hid (HP.out.below hbb)
  replace HB := Lib.hid (tr HB.out hbb)
  have HPA := Lib.hid (hk.ints (n := sz (ofP (xs ++ ys))) (ofN_length _) (by omega))
  clear hb hbb
  clear hk hg
  go_wp2_with fail
  rw [show (8 : Int) * (m : Int) = ((8 * m : Nat) : Int) by omega]
  refine (shift_yes _ _ _ (8 * m) (ofN (ofP xs)) _ HP.out (ofN_byt _) (by omega) (by omega)).mono ?_
  rintro e w43 ⟨g_s, rfl, hg, hk, hb⟩
  rw [toN_ofN] at hk ⊢
  have hs_s : sz (ofP xs <<< (8 * m)) ≤ 4000 := by
    have := sz_shl_le (ofP xs) (8 * m); omega
  have hbb := hb
  clear HP
  replace HX := Lib.hid (HX.out.below hbb)
  replace HY := Lib.hid (HY.out.below hbb)
  replace HPA := Lib.hid (HPA.out.below hbb)
  replace HB := Lib.hid (tr HB.out hbb)
  have HS := Lib.hid (hk.ints (n := sz (ofP xs <<< (8 * m))) (ofN_length _) (by omega))
  clear hb hbb
  clear hk hg
  go_wp2_with fail
  refine (of_any _ _ _ _ _ HY.out HBY.out (by omega)).mono ?_
  rintro e w44 ⟨g_q, rfl, hg, hk, hb⟩
  have hs_q : sz (ofP ys) ≤ 4000 := by
    omega
  have hbb := hb
  replace HX := Lib.hid (HX.out.below hbb)
  replace HY := Lib.hid (HY.out.below hbb)
  replace HPA := Lib.hid (HPA.out.below hbb)
  replace HS := Lib.hid (HS.out.below hbb)
  replace HB := Lib.hid (tr HB.out hbb)
  have HQ := Lib.hid (hk.ints (n := sz (ofP ys)) (ofN_length _) (by omega))
  clear hb hbb
  clear hk hg
  go_wp2_with fail
  refine (add_any _ _ _ _ _ _ ⟨some ⟨g_q, 0, none⟩, sz (ofP ys), sz (ofP ys), ofN (ofP ys)⟩ _ ((HS.out).below (al (Below.refl _ w44) _)) (ofN_byt _) (parts_one HQ.out (ofN_byt _)) (by omega) (by show sz (ofP ys) ≤ _; omega)).mono ?_
  rintro e w45 ⟨g_t, rfl, hg, hk, hb⟩
  simp only [toN_ofN] at hk ⊢
  rw [← HAP.out] at hk ⊢
  have hs_t : sz (ofP (xs ++ ys)) ≤ 4000 := by
    omega
  have hbb := (al (Below.refl _ w44) (.cells #[.slice (some ⟨g_q, 0, none⟩) (sz (ofP ys)) (sz (ofP ys))] 24)).trans (hb.mono (by simp))
  clear HS HQ
  replace HX := Lib.hid (HX.out.below hbb)
  replace HY := Lib.hid (HY.out.below hbb)
  replace HPA := Lib.hid (HPA.out.below hbb)
  replace HB := Lib.hid (tr HB.out hbb)
  have HT := Lib.hid (hk.ints (n := sz (ofP (xs ++ ys))) (ofN_length _) (by omega))
  clear hb hbb
  clear hk hg
  go_wp2_with fail
  refine (lawsame_any _ _ _ _ _ _ _ _ _ HPA.out HT.out).mono ?_
  rintro e w46 ⟨rfl, hb⟩
  rw [eqL_true rfl]
  have hbb := hb
  replace HX := Lib.hid (HX.out.below hbb)
  replace HY := Lib.hid (HY.out.below hbb)
  replace HPA := Lib.hid (HPA.out.below hbb)
  replace HT := Lib.hid (HT.out.below hbb)
  replace HB := Lib.hid (tr HB.out hbb)
  clear hb hbb
  go_wp2
  go_ret
  exact ⟨rfl, HB.out⟩

set_option maxHeartbeats 8000000 in
theorem walk_PolyBytes_no (a b : Option Addr) (n c m d : Nat) (xs ys : List Int) (w : World) (hx : Ints .u8 w a n c xs) (hB : Byt xs) (hy : Ints .u8 w b m d ys) (hB2 : Byt ys) (hn : n ≤ 100) (hm : m ≤ 100) (h0 : 32 < sz (ofP xs)) :
    Calls Try.prog 6 #[.slice a n c, .slice b m d] w fun e w' => e = .returned (.bool true) ∧ Below w.heap.size w w' := by
  obtain ⟨i0, hi, hz0, hz1, hz2⟩ := info_parts info_u8
  have hcc := hx.cap
  have hdd := hy.cap
  have hs_x := sz_ofP xs
  have hs_y := sz_ofP ys
  have hap := ofP_append xs ys
  rw [hx.len] at hs_x
  rw [hy.len] at hs_y hap
  have HAP := Lib.hid hap
  have HB := Lib.hid (Below.refl w.heap.size w)
  have HX := Lib.hid hx
  have HY := Lib.hid hy
  have HBX := Lib.hid hB
  have HBY := Lib.hid hB2
  have hsd : decide (((sz (ofP xs) : Nat) : Int) ≤ 32) = false := by simp; omega
  clear hx hB hy hB2 hap
  go_enter Try.func6, Try.ntmps6
  go_wp2_with fail
  refine (awake_any _).mono ?_
  rintro e w1 ⟨rfl, hb⟩
  have hbb := hb
  replace HX := Lib.hid (HX.out.below hbb)
  replace HY := Lib.hid (HY.out.below hbb)
  replace HB := Lib.hid (tr HB.out hbb)
  clear hb hbb
  go_wp2_with fail
  refine (of_any _ _ _ _ _ HX.out HBX.out (by omega)).mono ?_
  rintro e w2 ⟨g_p, rfl, hg, hk, hb⟩
  have hs_p : sz (ofP xs) ≤ 4000 := by
    omega
  have hbb := hb
  replace HX := Lib.hid (HX.out.below hbb)
  replace HY := Lib.hid (HY.out.below hbb)
  replace HB := Lib.hid (tr HB.out hbb)
  have HP := Lib.hid (hk.ints (n := sz (ofP xs)) (ofN_length _) (by omega))
  clear hb hbb
  clear hk hg
  go_wp2_with fail
  refine (word_no _ _ _ (ofN (ofP xs)) _ HP.out (ofN_byt _) (by rw [toN_ofN]; exact h0)).mono ?_
  rintro e w3 ⟨rfl, hb⟩
  have hbb := hb
  replace HX := Lib.hid (HX.out.below hbb)
  replace HY := Lib.hid (HY.out.below hbb)
  replace HP := Lib.hid (HP.out.below hbb)
  replace HB := Lib.hid (tr HB.out hbb)
  clear hb hbb
  go_wp2_with fail
  refine (refof_any _ _ _ _ _ HX.out HBX.out (by omega)).mono ?_
  rintro e w4 ⟨a_1, c_1, rfl, hI, hb⟩
  have hbb := hb
  replace HX := Lib.hid (HX.out.below hbb)
  replace HY := Lib.hid (HY.out.below hbb)
  replace HP := Lib.hid (HP.out.below hbb)
  replace HB := Lib.hid (tr HB.out hbb)
  clear hb hbb
  clear hI
  go_wp2_with fail
  refine (refof_any _ _ _ _ _ HX.out HBX.out (by omega)).mono ?_
  rintro e w5 ⟨a_2, c_2, rfl, hI, hb⟩
  have hbb := hb
  replace HX := Lib.hid (HX.out.below hbb)
  replace HY := Lib.hid (HY.out.below hbb)
  replace HP := Lib.hid (HP.out.below hbb)
  replace HB := Lib.hid (tr HB.out hbb)
  have HR := Lib.hid (hI)
  clear hb hbb
  clear hI
  go_wp2_with fail
  refine (lawsame_any _ _ _ _ _ _ _ _ _ HP.out HR.out).mono ?_
  rintro e w6 ⟨rfl, hb⟩
  rw [eqL_true rfl]
  have hbb := hb
  clear HR
  replace HX := Lib.hid (HX.out.below hbb)
  replace HY := Lib.hid (HY.out.below hbb)
  replace HP := Lib.hid (HP.out.below hbb)
  replace HB := Lib.hid (tr HB.out hbb)
  clear hb hbb
  go_wp2_with (first | (at_builtin; refine append_own_any _ rfl _ _ 22 rfl w6.heap.size 5 i0 (.int .u8 0) 1 Try.underlying22 hi hz0 hz1 hz2 rfl (.slice (some ⟨w6.heap.size, 0, none⟩) 0 0) 0 [] rfl (own_nothing w6) a n c (xs.map (Value.int .u8)) rfl (HX.out.below (al (Below.refl _ w6) _)) (ints_oneCell _ _) (by unfold maxLen; omega) (by omega) (by simp) ?_; intro v2 w40 hown hgrow; have hown2 := hown.out; rw [Nat.zero_add, List.nil_append] at hown2; obtain ⟨a40, c40, hv, _⟩ := Ints.own hown2; subst hv; have HO := Lib.hid hown2; have hb1 := below_app hgrow.out; have HBa := Lib.hid hb1; have HY4 := Lib.hid (HY.out.below hb1); clear hown hgrow hown2 hb1) | (at_builtin; refine append_own_any _ rfl _ _ 22 rfl w6.heap.size 5 i0 (.int .u8 0) 1 Try.underlying22 hi hz0 hz1 hz2 rfl (.slice a40 n c40) n (xs.map (Value.int .u8)) rfl HO.out b m d (ys.map (Value.int .u8)) rfl HY4.out (ints_oneCell _ _) (by unfold maxLen; omega) (by omega) (by have := HBa.out.size; omega) ?_; intro v3 w41 hown hgrow; have hown2 := hown.out; rw [← List.map_append] at hown2; obtain ⟨a41, c41, hv, hI⟩ := Ints.own hown2; subst hv; have HA0 := Lib.hid hI; have HBb := Lib.hid (HBa.out.grown hgrow.out HBa.out.size (fun k' hk' => (HO.out.lt k' hk').1)); clear hown hgrow hown2 hI HO HBa HY4))
  replace HX := Lib.hid (HX.out.below HBb.out)
  replace HY := Lib.hid (HY.out.below HBb.out)
  replace HP := Lib.hid (HP.out.below HBb.out)
  replace HB := Lib.hid (tr HB.out HBb.out)
  have HA : Hid (Ints .u8 w41 a41 (n + m) c41 (xs ++ ys)) := HA0
  have hca := HA.out.cap
  have hs_a := sz_ofP (xs ++ ys)
  rw [HA.out.len] at hs_a
  clear HA0 HBb
  go_wp2_with fail
  refine (of_any _ _ _ _ _ HA.out (HBX.out.append HBY.out) (by omega)).mono ?_
  rintro e w42 ⟨g_a, rfl, hg, hk, hb⟩
  have hs_a : sz (ofP (xs ++ ys)) ≤ 4000 := by
    omega
  have hbb := hb
  clear HA
  replace HX := Lib.hid (HX.out.below hbb)
  replace HY := Lib.hid (HY.out.below hbb)
  replace HP := Lib.hid (HP.out.below hbb)
  replace HB := Lib.hid (tr HB.out hbb)
  have HPA := Lib.hid (hk.ints (n := sz (ofP (xs ++ ys))) (ofN_length _) (by omega))
  clear hb hbb
  clear hk hg
  go_wp2_with fail
  rw [show (8 : Int) * (m : Int) = ((8 * m : Nat) : Int) by omega]
  refine (shift_yes _ _ _ (8 * m) (ofN (ofP xs)) _ HP.out (ofN_byt _) (by omega) (by omega)).mono ?_
  rintro e w43 ⟨g_s, rfl, hg, hk, hb⟩
  rw [toN_ofN] at hk ⊢
  have hs_s : sz (ofP xs <<< (8 * m)) ≤ 4000 := by
    have := sz_shl_le (ofP xs) (8 * m); omega
  have hbb := hb
  clear HP
  replace HX := Lib.hid (HX.out.below hbb)
  replace HY := Lib.hid (HY.out.below hbb)
  replace HPA := Lib.hid (HPA.out.below hbb)
  replace HB := Lib.hid (tr HB.out hbb)
  have HS := Lib.hid (hk.ints (n := sz (ofP xs <<< (8 * m))) (ofN_length _) (by omega))
  clear hb hbb
  clear hk hg
  go_wp2_with fail
  refine (of_any _ _ _ _ _ HY.out HBY.out (by omega)).mono ?_
  rintro e w44 ⟨g_q, rfl, hg, hk, hb⟩
  have hs_q : sz (ofP ys) ≤ 4000 := by
    omega
  have hbb := hb
  replace HX := Lib.hid (HX.out.below hbb)
  replace HY := Lib.hid (HY.out.below hbb)
  replace HPA := Lib.hid (HPA.out.below hbb)
  replace HS := Lib.hid (HS.out.below hbb)
  replace HB := Lib.hid (tr HB.out hbb)
  have HQ := Lib.hid (hk.ints (n := sz (ofP ys)) (ofN_length _) (by omega))
  clear hb hbb
  clear hk hg
  go_wp2_with fail
  refine (add_any _ _ _ _ _ _ ⟨some ⟨g_q, 0, none⟩, sz (ofP ys), sz (ofP ys), ofN (ofP ys)⟩ _ ((HS.out).below (al (Below.refl _ w44) _)) (ofN_byt _) (parts_one HQ.out (ofN_byt _)) (by omega) (by show sz (ofP ys) ≤ _; omega)).mono ?_
  rintro e w45 ⟨g_t, rfl, hg, hk, hb⟩
  simp only [toN_ofN] at hk ⊢
  rw [← HAP.out] at hk ⊢
  have hs_t : sz (ofP (xs ++ ys)) ≤ 4000 := by
    omega
  have hbb := (al (Below.refl _ w44) (.cells #[.slice (some ⟨g_q, 0, none⟩) (sz (ofP ys)) (sz (ofP ys))] 24)).trans (hb.mono (by simp))
  clear HS HQ
  replace HX := Lib.hid (HX.out.below hbb)
  replace HY := Lib.hid (HY.out.below hbb)
  replace HPA := Lib.hid (HPA.out.below hbb)
  replace HB := Lib.hid (tr HB.out hbb)
  have HT := Lib.hid (hk.ints (n := sz (ofP (xs ++ ys))) (ofN_length _) (by omega))
  clear hb hbb
  clear hk hg
  go_wp2_with fail
  refine (lawsame_any _ _ _ _ _ _ _ _ _ HPA.out HT.out).mono ?_
  rintro e w46 ⟨rfl, hb⟩
  rw [eqL_true rfl]
  have hbb := hb
  replace HX := Lib.hid (HX.out.below hbb)
  replace HY := Lib.hid (HY.out.below hbb)
  replace HPA := Lib.hid (HPA.out.below hbb)
  replace HT := Lib.hid (HT.out.below hbb)
  replace HB := Lib.hid (tr HB.out hbb)
  clear hb hbb
  go_wp2
  go_ret
  exact ⟨rfl, HB.out⟩

theorem walk_PolyBytes (a b : Option Addr) (n c m d : Nat) (xs ys : List Int) (w : World) (hx : Ints .u8 w a n c xs) (hB : Byt xs) (hy : Ints .u8 w b m d ys) (hB2 : Byt ys) :
    Calls Try.prog 6 #[.slice a n c, .slice b m d] w fun e w' => e = .returned (.bool true) ∧ Below w.heap.size w w' := by
  by_cases hbig : 100 < n ∨ n ≤ 100 ∧ 100 < m
  · exact walk_PolyBytes_big a b n c m d w hbig
  · by_cases h0 : sz (ofP xs) ≤ 32
    · exact walk_PolyBytes_yes a b n c m d xs ys w hx hB hy hB2 (by omega) (by omega) h0
    · exact walk_PolyBytes_no a b n c m d xs ys w hx hB hy hB2 (by omega) (by omega) (by omega)
end Go.Proofs.Ytadlmefdkpbflaa

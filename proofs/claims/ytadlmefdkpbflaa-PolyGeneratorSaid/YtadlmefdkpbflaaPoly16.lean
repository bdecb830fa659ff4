/- The walk of PolyMatchesReference (printed by polywalk.py). -/
import Derived.Test.YtadlmefdkpbflaaPoly15
namespace Go.Proofs.Ytadlmefdkpbflaa
open Go.RowKit

theorem parts_one {w : World} {a : Option Addr} {n c : Nat} {zs : List Int} (h : Ints .u8 w a n c zs) (hb : Byt zs) : Parts (w.alloc (.cells #[.slice a n c] 24)) (some ⟨w.heap.size, 0, none⟩) 1 1 [⟨a, n, c, zs⟩] :=
  Parts.new w [⟨a, n, c, zs⟩] 24 1 rfl (by omega) (fun p hp => by
    simp only [List.mem_cons, List.not_mem_nil, or_false] at hp
    subst hp
    exact ⟨h, hb⟩)
theorem own_nothing (w : World) : (w.alloc (.cells #[] 5)).ownsRow w.heap.size 5 1 (.slice (some ⟨w.heap.size, 0, none⟩) 0 0) 0 [] := World.ownsRow_made w #[] 0 (Nat.le_refl _) (by decide) rfl
theorem below_app {w w2 : World} (hg : (w.alloc (.cells #[] 5)).grownBy w2 (Value.ownBlock (.slice (some ⟨w.heap.size, 0, none⟩) 0 0))) : Below w.heap.size w w2 :=
  ((Below.refl _ w).alloc (Nat.le_refl _) (.cells #[] 5)).grown hg (by simp) (fun k' hk' => ((own_nothing w).lt k' hk').1)

theorem walk_PolyMatches_big (a b : Option Addr) (n c m d : Nat) (w : World) (hbig : 200 < n ∨ n ≤ 200 ∧ 200 < m) :
    Calls Try.prog 3 #[.slice a n c, .slice b m d] w fun e w' => e = .returned (.bool true) ∧ Below w.heap.size w w' := by
  have HB := Lib.hid (Below.refl w.heap.size w)
  rcases hbig with h | ⟨h, h2⟩
  · go_enter Try.func3, Try.ntmps3
    go_wp2_with fail
    refine (awake_any _).mono ?_
    rintro e w1 ⟨rfl, hb⟩
    have hbb := hb
    replace HB := Lib.hid (tr HB.out hbb)
    clear hb hbb
    go_wp2_with fail
    refine (awake_any _).mono ?_
    rintro e w2 ⟨rfl, hb⟩
    have hbb := hb
    replace HB := Lib.hid (tr HB.out hbb)
    clear hb hbb
    go_wp2
    go_ret
    exact ⟨rfl, HB.out⟩
  · go_enter Try.func3, Try.ntmps3
    go_wp2_with fail
    refine (awake_any _).mono ?_
    rintro e w1 ⟨rfl, hb⟩
    have hbb := hb
    replace HB := Lib.hid (tr HB.out hbb)
    clear hb hbb
    go_wp2_with fail
    refine (awake_any _).mono ?_
    rintro e w2 ⟨rfl, hb⟩
    have hbb := hb
    replace HB := Lib.hid (tr HB.out hbb)
    clear hb hbb
    go_wp2
    go_ret
    exact ⟨rfl, HB.out⟩

set_option maxHeartbeats 8000000 in
theorem walk_PolyMatches_no (a b : Option Addr) (n c m d : Nat) (xs ys : List Int) (w : World) (hx : Ints .u8 w a n c xs) (hB : Byt xs) (hy : Ints .u8 w b m d ys) (hB2 : Byt ys) (hn : n ≤ 200) (hm : m ≤ 200) (h0 : toN ys = 0) :
    Calls Try.prog 3 #[.slice a n c, .slice b m d] w fun e w' => e = .returned (.bool true) ∧ Below w.heap.size w w' := by
  obtain ⟨i0, hi, hz0, hz1, hz2⟩ := info_parts info_u8
  have hcc := hx.cap
  have hdd := hy.cap
  have HB := Lib.hid (Below.refl w.heap.size w)
  have HX := Lib.hid hx
  have HY := Lib.hid hy
  have HBX := Lib.hid hB
  have HBY := Lib.hid hB2
  have H0 := Lib.hid h0
  clear hx hy hB hB2 h0
  go_enter Try.func3, Try.ntmps3
  go_wp2_with fail
  refine (awake_any _).mono ?_
  rintro e w1 ⟨rfl, hb⟩
  have hbb := hb
  replace HX := Lib.hid (HX.out.below hbb)
  replace HY := Lib.hid (HY.out.below hbb)
  replace HB := Lib.hid (tr HB.out hbb)
  clear hb hbb
  go_wp2_with (first | (at_builtin; refine append_two_any _ rfl _ _ 24 22 rfl w1.heap.size 5 i0 (.int .u8 0) 1 Try.underlying24 Try.underlying22 hi hz0 hz1 hz2 rfl (.slice (some ⟨w1.heap.size, 0, none⟩) 0 0) 0 [] rfl (own_nothing w1) a n c (xs.map (Value.int .u8)) rfl (HX.out.below (al (Below.refl _ w1) _)) (ints_oneCell _ _) (by unfold maxLen; omega) (by omega) (by simp) ?_; intro v2 w2 hown hgrow; have hown2 := hown.out; rw [Nat.zero_add, List.nil_append] at hown2; obtain ⟨p, cp, hv, hI⟩ := Ints.own hown2; subst hv; have HP := Lib.hid hI; have hbb := below_app hgrow.out; have HXw2 := Lib.hid (HX.out.below hbb); have HYw2 := Lib.hid (HY.out.below hbb); have HBw2 := Lib.hid (tr HB.out hbb); clear HX HY HB hown hgrow hown2 hI hbb) | (at_builtin; refine append_two_any _ rfl _ _ 24 22 rfl w2.heap.size 5 i0 (.int .u8 0) 1 Try.underlying24 Try.underlying22 hi hz0 hz1 hz2 rfl (.slice (some ⟨w2.heap.size, 0, none⟩) 0 0) 0 [] rfl (own_nothing w2) b m d (ys.map (Value.int .u8)) rfl (HYw2.out.below (al (Below.refl _ w2) _)) (ints_oneCell _ _) (by unfold maxLen; omega) (by omega) (by simp) ?_; intro v3 w3 hown hgrow; have hown2 := hown.out; rw [Nat.zero_add, List.nil_append] at hown2; obtain ⟨q, cq, hv, hI⟩ := Ints.own hown2; subst hv; have HQ := Lib.hid hI; have hbb := below_app hgrow.out; have HXw3 := Lib.hid (HXw2.out.below hbb); have HYw3 := Lib.hid (HYw2.out.below hbb); have HBw3 := Lib.hid (tr HBw2.out hbb); have HPw3 := Lib.hid (HP.out.below hbb); clear HP HXw2 HYw2 HBw2 hown hgrow hown2 hI hbb))
  have HX : Hid (Ints .u8 w3 a n c xs) := HXw3
  have HY : Hid (Ints .u8 w3 b m d ys) := HYw3
  have HB : Hid (Below w.heap.size w w3) := HBw3
  have HP : Hid (Ints .u8 w3 p n cp xs) := HPw3
  clear HXw3 HYw3 HBw3 HPw3
  have hcp := HP.out.cap
  have hcq := HQ.out.cap
  go_wp2_with fail
  refine (mod_no _ _ _ _ _ _ _ _ HQ.out HBY.out H0.out).mono ?_
  rintro e w4 ⟨rfl, hb⟩
  have hbb := hb
  replace HX := Lib.hid (HX.out.below hbb)
  replace HY := Lib.hid (HY.out.below hbb)
  replace HP := Lib.hid (HP.out.below hbb)
  replace HQ := Lib.hid (HQ.out.below hbb)
  replace HB := Lib.hid (tr HB.out hbb)
  clear hb hbb
  go_wp2_with fail
  refine (refmod_no _ _ _ _ _ _ _ _ HY.out HBY.out (by omega) H0.out).mono ?_
  rintro e w5 ⟨rfl, hb⟩
  have hbb := hb
  replace HX := Lib.hid (HX.out.below hbb)
  replace HY := Lib.hid (HY.out.below hbb)
  replace HP := Lib.hid (HP.out.below hbb)
  replace HQ := Lib.hid (HQ.out.below hbb)
  replace HB := Lib.hid (tr HB.out hbb)
  clear hb hbb
  go_wp2_with fail
  refine (lawsame_any none none 0 0 0 0 [] [] _ (Ints.nil _ _) (Ints.nil _ _)).mono ?_
  rintro e w6 ⟨rfl, hb⟩
  rw [eqL_true rfl]
  have hbb := hb
  replace HX := Lib.hid (HX.out.below hbb)
  replace HY := Lib.hid (HY.out.below hbb)
  replace HP := Lib.hid (HP.out.below hbb)
  replace HQ := Lib.hid (HQ.out.below hbb)
  replace HB := Lib.hid (tr HB.out hbb)
  clear hb hbb
  go_wp2_with fail
  refine (add_any _ _ _ _ _ _ ⟨q, m, cq, ys⟩ _ ((HP.out).below (al (Below.refl _ w6) _)) HBX.out (parts_one HQ.out HBY.out) (by omega) (by show m ≤ _; omega)).mono ?_
  rintro e w7 ⟨g_add, rfl, hg, hk, hb⟩
  have hs_add : sz (toN xs ^^^ toN ys) ≤ 1000 := by
    have h1 := sz_toN_le xs; rw [HX.out.len] at h1; have h2 := sz_toN_le ys; rw [HY.out.len] at h2; have := sz_xor (x := toN xs) (y := toN ys) (n := 1000) (by omega) (by omega); omega
  have hbb := (al (Below.refl _ w6) (.cells #[.slice q m cq] 24)).trans (hb.mono (by simp))
  replace HX := Lib.hid (HX.out.below hbb)
  replace HY := Lib.hid (HY.out.below hbb)
  replace HP := Lib.hid (HP.out.below hbb)
  replace HQ := Lib.hid (HQ.out.below hbb)
  replace HB := Lib.hid (tr HB.out hbb)
  have HR := Lib.hid (hk.ints (n := sz (toN xs ^^^ toN ys)) (ofN_length _) (by omega))
  clear hb hbb
  clear hk hg
  go_wp2_with fail
  refine (refadd_any _ _ _ _ _ _ _ _ _ HX.out HBX.out HY.out HBY.out (by omega) (by omega)).mono ?_
  rintro e w8 ⟨a_radd, c_radd, rfl, hI, hb⟩
  have hbb := hb
  replace HX := Lib.hid (HX.out.below hbb)
  replace HY := Lib.hid (HY.out.below hbb)
  replace HP := Lib.hid (HP.out.below hbb)
  replace HQ := Lib.hid (HQ.out.below hbb)
  replace HR := Lib.hid (HR.out.below hbb)
  replace HB := Lib.hid (tr HB.out hbb)
  have HR2 := Lib.hid (hI)
  clear hb hbb
  clear hI
  go_wp2_with fail
  refine (lawsame_any _ _ _ _ _ _ _ _ _ HR.out HR2.out).mono ?_
  rintro e w9 ⟨rfl, hb⟩
  rw [eqL_true rfl]
  have hbb := hb
  clear HR HR2
  replace HX := Lib.hid (HX.out.below hbb)
  replace HY := Lib.hid (HY.out.below hbb)
  replace HP := Lib.hid (HP.out.below hbb)
  replace HQ := Lib.hid (HQ.out.below hbb)
  replace HB := Lib.hid (tr HB.out hbb)
  clear hb hbb
  go_wp2_with fail
  refine (mul_any _ _ _ _ _ _ _ _ _ HP.out HBX.out HQ.out HBY.out (by omega) (by omega)).mono ?_
  rintro e w10 ⟨g_mul, rfl, hg, hk, hb⟩
  have hs_mul : sz (cmul (toN xs) (toN ys)) ≤ 1000 := by
    have h1 := sz_toN_le xs; rw [HX.out.len] at h1; have h2 := sz_toN_le ys; rw [HY.out.len] at h2; have h3 := sz_le (cmul_lt (lt_sz (toN xs)) (lt_sz (toN ys))); omega
  have hbb := hb
  replace HX := Lib.hid (HX.out.below hbb)
  replace HY := Lib.hid (HY.out.below hbb)
  replace HP := Lib.hid (HP.out.below hbb)
  replace HQ := Lib.hid (HQ.out.below hbb)
  replace HB := Lib.hid (tr HB.out hbb)
  have HR := Lib.hid (hk.ints (n := sz (cmul (toN xs) (toN ys))) (ofN_length _) (by omega))
  clear hb hbb
  clear hk hg
  go_wp2_with fail
  refine (refmul_any _ _ _ _ _ _ _ _ _ HX.out HBX.out HY.out HBY.out (by omega) (by omega)).mono ?_
  rintro e w11 ⟨a_rmul, c_rmul, rfl, hI, hb⟩
  have hbb := hb
  replace HX := Lib.hid (HX.out.below hbb)
  replace HY := Lib.hid (HY.out.below hbb)
  replace HP := Lib.hid (HP.out.below hbb)
  replace HQ := Lib.hid (HQ.out.below hbb)
  replace HR := Lib.hid (HR.out.below hbb)
  replace HB := Lib.hid (tr HB.out hbb)
  have HR2 := Lib.hid (hI)
  clear hb hbb
  clear hI
  go_wp2_with fail
  refine (lawsame_any _ _ _ _ _ _ _ _ _ HR.out HR2.out).mono ?_
  rintro e w12 ⟨rfl, hb⟩
  rw [eqL_true rfl]
  have hbb := hb
  clear HR HR2
  replace HX := Lib.hid (HX.out.below hbb)
  replace HY := Lib.hid (HY.out.below hbb)
  replace HP := Lib.hid (HP.out.below hbb)
  replace HQ := Lib.hid (HQ.out.below hbb)
  replace HB := Lib.hid (tr HB.out hbb)
  clear hb hbb
  go_wp2_with fail
  refine (reduce_any _ _ _ _ _ HP.out HBX.out (by omega)).mono ?_
  rintro e w13 ⟨g_red, rfl, hg, hk, hb⟩
  have hs_red : sz (toN xs) ≤ 1000 := by
    have h1 := sz_toN_le xs; rw [HX.out.len] at h1; have h2 := sz_toN_le ys; rw [HY.out.len] at h2; omega
  have hbb := hb
  replace HX := Lib.hid (HX.out.below hbb)
  replace HY := Lib.hid (HY.out.below hbb)
  replace HP := Lib.hid (HP.out.below hbb)
  replace HQ := Lib.hid (HQ.out.below hbb)
  replace HB := Lib.hid (tr HB.out hbb)
  have HR := Lib.hid (hk.ints (n := sz (toN xs)) (ofN_length _) (by omega))
  clear hb hbb
  clear hk hg
  go_wp2_with fail
  refine (refreduce_any _ _ _ _ _ HX.out HBX.out (by omega)).mono ?_
  rintro e w14 ⟨a_rred, c_rred, rfl, hI, hb⟩
  have hbb := hb
  replace HX := Lib.hid (HX.out.below hbb)
  replace HY := Lib.hid (HY.out.below hbb)
  replace HP := Lib.hid (HP.out.below hbb)
  replace HQ := Lib.hid (HQ.out.below hbb)
  replace HR := Lib.hid (HR.out.below hbb)
  replace HB := Lib.hid (tr HB.out hbb)
  have HR2 := Lib.hid (hI)
  clear hb hbb
  clear hI
  go_wp2_with fail
  refine (lawsame_any _ _ _ _ _ _ _ _ _ HR.out HR2.out).mono ?_
  rintro e w15 ⟨rfl, hb⟩
  rw [eqL_true rfl]
  have hbb := hb
  clear HR HR2
  replace HX := Lib.hid (HX.out.below hbb)
  replace HY := Lib.hid (HY.out.below hbb)
  replace HP := Lib.hid (HP.out.below hbb)
  replace HQ := Lib.hid (HQ.out.below hbb)
  replace HB := Lib.hid (tr HB.out hbb)
  clear hb hbb
  go_wp2_with fail
  refine (degree_any _ _ _ _ _ HP.out HBX.out).mono ?_
  rintro e w16 ⟨rfl, hb⟩
  have hbb := hb
  replace HX := Lib.hid (HX.out.below hbb)
  replace HY := Lib.hid (HY.out.below hbb)
  replace HP := Lib.hid (HP.out.below hbb)
  replace HQ := Lib.hid (HQ.out.below hbb)
  replace HB := Lib.hid (tr HB.out hbb)
  clear hb hbb
  go_wp2_with fail
  refine (refreduce_any _ _ _ _ _ HX.out HBX.out (by omega)).mono ?_
  rintro e w17 ⟨a_rred2, c_rred2, rfl, hI, hb⟩
  have hbb := hb
  replace HX := Lib.hid (HX.out.below hbb)
  replace HY := Lib.hid (HY.out.below hbb)
  replace HP := Lib.hid (HP.out.below hbb)
  replace HQ := Lib.hid (HQ.out.below hbb)
  replace HB := Lib.hid (tr HB.out hbb)
  have HR2 := Lib.hid (hI)
  clear hb hbb
  clear hI
  go_wp2_with fail
  refine (lawsame_any _ _ _ _ _ _ _ _ _ HP.out HX.out).mono ?_
  rintro e w18 ⟨rfl, hb⟩
  rw [eqL_true rfl]
  have hbb := hb
  replace HX := Lib.hid (HX.out.below hbb)
  replace HY := Lib.hid (HY.out.below hbb)
  replace HP := Lib.hid (HP.out.below hbb)
  replace HQ := Lib.hid (HQ.out.below hbb)
  replace HR2 := Lib.hid (HR2.out.below hbb)
  replace HB := Lib.hid (tr HB.out hbb)
  clear hb hbb
  go_wp2_with fail
  refine (lawsame_any _ _ _ _ _ _ _ _ _ HQ.out HY.out).mono ?_
  rintro e w19 ⟨rfl, hb⟩
  rw [eqL_true rfl]
  have hbb := hb
  replace HX := Lib.hid (HX.out.below hbb)
  replace HY := Lib.hid (HY.out.below hbb)
  replace HP := Lib.hid (HP.out.below hbb)
  replace HQ := Lib.hid (HQ.out.below hbb)
  replace HR2 := Lib.hid (HR2.out.below hbb)
  replace HB := Lib.hid (tr HB.out hbb)
  clear hb hbb
  go_wp2
  go_ret
  exact ⟨rfl, HB.out⟩

set_option maxHeartbeats 8000000 in
theorem walk_PolyMatches_yes (a b : Option Addr) (n c m d : Nat) (xs ys : List Int) (w : World) (hx : Ints .u8 w a n c xs) (hB : Byt xs) (hy : Ints .u8 w b m d ys) (hB2 : Byt ys) (hn : n ≤ 200) (hm : m ≤ 200) (h0 : toN ys ≠ 0) :
    Calls Try.prog 3 #[.slice a n c, .slice b m d] w fun e w' => e = .returned (.bool true) ∧ Below w.heap.size w w' := by
  obtain ⟨i0, hi, hz0, hz1, hz2⟩ := info_parts info_u8
  have hcc := hx.cap
  have hdd := hy.cap
  have HB := Lib.hid (Below.refl w.heap.size w)
  have HX := Lib.hid hx
  have HY := Lib.hid hy
  have HBX := Lib.hid hB
  have HBY := Lib.hid hB2
  have H0 := Lib.hid h0
  clear hx hy hB hB2 h0
  go_enter Try.func3, Try.ntmps3
  go_wp2_with fail
  refine (awake_any _).mono ?_
  rintro e w1 ⟨rfl, hb⟩
  have hbb := hb
  replace HX := Lib.hid (HX.out.below hbb)
  replace HY := Lib.hid (HY.out.below hbb)
  replace HB := Lib.hid (tr HB.out hbb)
  clear hb hbb
  go_wp2_with (first | (at_builtin; refine append_two_any _ rfl _ _ 24 22 rfl w1.heap.size 5 i0 (.int .u8 0) 1 Try.underlying24 Try.underlying22 hi hz0 hz1 hz2 rfl (.slice (some ⟨w1.heap.size, 0, none⟩) 0 0) 0 [] rfl (own_nothing w1) a n c (xs.map (Value.int .u8)) rfl (HX.out.below (al (Below.refl _ w1) _)) (ints_oneCell _ _) (by unfold maxLen; omega) (by omega) (by simp) ?_; intro v2 w2 hown hgrow; have hown2 := hown.out; rw [Nat.zero_add, List.nil_append] at hown2; obtain ⟨p, cp, hv, hI⟩ := Ints.own hown2; subst hv; have HP := Lib.hid hI; have hbb := below_app hgrow.out; have HXw2 := Lib.hid (HX.out.below hbb); have HYw2 := Lib.hid (HY.out.below hbb); have HBw2 := Lib.hid (tr HB.out hbb); clear HX HY HB hown hgrow hown2 hI hbb) | (at_builtin; refine append_two_any _ rfl _ _ 24 22 rfl w2.heap.size 5 i0 (.int .u8 0) 1 Try.underlying24 Try.underlying22 hi hz0 hz1 hz2 rfl (.slice (some ⟨w2.heap.size, 0, none⟩) 0 0) 0 [] rfl (own_nothing w2) b m d (ys.map (Value.int .u8)) rfl (HYw2.out.below (al (Below.refl _ w2) _)) (ints_oneCell _ _) (by unfold maxLen; omega) (by omega) (by simp) ?_; intro v3 w3 hown hgrow; have hown2 := hown.out; rw [Nat.zero_add, List.nil_append] at hown2; obtain ⟨q, cq, hv, hI⟩ := Ints.own hown2; subst hv; have HQ := Lib.hid hI; have hbb := below_app hgrow.out; have HXw3 := Lib.hid (HXw2.out.below hbb); have HYw3 := Lib.hid (HYw2.out.below hbb); have HBw3 := Lib.hid (tr HBw2.out hbb); have HPw3 := Lib.hid (HP.out.below hbb); clear HP HXw2 HYw2 HBw2 hown hgrow hown2 hI hbb))
  have HX : Hid (Ints .u8 w3 a n c xs) := HXw3
  have HY : Hid (Ints .u8 w3 b m d ys) := HYw3
  have HB : Hid (Below w.heap.size w w3) := HBw3
  have HP : Hid (Ints .u8 w3 p n cp xs) := HPw3
  clear HXw3 HYw3 HBw3 HPw3
  have hcp := HP.out.cap
  have hcq := HQ.out.cap
  go_wp2_with fail
  refine (mod_yes _ _ _ _ _ _ _ _ _ HP.out HBX.out HQ.out HBY.out (by omega) (by omega) H0.out).mono ?_
  rintro e w4 ⟨g1, r, rfl, hm1, hg, hk, hb⟩
  have hrs : sz r ≤ 200 := by have h1 := hm1.1; have h2 := sz_toN_le ys; rw [HY.out.len] at h2; omega
  have hbb := hb
  replace HX := Lib.hid (HX.out.below hbb)
  replace HY := Lib.hid (HY.out.below hbb)
  replace HP := Lib.hid (HP.out.below hbb)
  replace HQ := Lib.hid (HQ.out.below hbb)
  replace HB := Lib.hid (tr HB.out hbb)
  have HR := Lib.hid (hk.ints (n := sz r) (ofN_length _) (by omega))
  clear hb hbb
  clear hk hg
  go_wp2_with fail
  refine (refmod_yes _ _ _ _ _ _ _ _ _ HX.out HBX.out HY.out HBY.out (by omega) (by omega) H0.out).mono ?_
  rintro e w5 ⟨a2, c2, r2, rfl, hm2, hI, hb⟩
  obtain rfl : r2 = r := hm2.uniq hm1
  have hbb := hb
  replace HX := Lib.hid (HX.out.below hbb)
  replace HY := Lib.hid (HY.out.below hbb)
  replace HP := Lib.hid (HP.out.below hbb)
  replace HQ := Lib.hid (HQ.out.below hbb)
  replace HR := Lib.hid (HR.out.below hbb)
  replace HB := Lib.hid (tr HB.out hbb)
  have HR2 := Lib.hid (hI)
  clear hb hbb
  clear hI hm1 hm2
  go_wp2_with fail
  refine (lawsame_any _ _ _ _ _ _ _ _ _ HR.out HR2.out).mono ?_
  rintro e w6 ⟨rfl, hb⟩
  rw [eqL_true rfl]
  have hbb := hb
  clear HR HR2
  replace HX := Lib.hid (HX.out.below hbb)
  replace HY := Lib.hid (HY.out.below hbb)
  replace HP := Lib.hid (HP.out.below hbb)
  replace HQ := Lib.hid (HQ.out.below hbb)
  replace HB := Lib.hid (tr HB.out hbb)
  clear hb hbb
  go_wp2_with fail
  refine (add_any _ _ _ _ _ _ ⟨q, m, cq, ys⟩ _ ((HP.out).below (al (Below.refl _ w6) _)) HBX.out (parts_one HQ.out HBY.out) (by omega) (by show m ≤ _; omega)).mono ?_
  rintro e w7 ⟨g_add, rfl, hg, hk, hb⟩
  have hs_add : sz (toN xs ^^^ toN ys) ≤ 1000 := by
    have h1 := sz_toN_le xs; rw [HX.out.len] at h1; have h2 := sz_toN_le ys; rw [HY.out.len] at h2; have := sz_xor (x := toN xs) (y := toN ys) (n := 1000) (by omega) (by omega); omega
  have hbb := (al (Below.refl _ w6) (.cells #[.slice q m cq] 24)).trans (hb.mono (by simp))
  replace HX := Lib.hid (HX.out.below hbb)
  replace HY := Lib.hid (HY.out.below hbb)
  replace HP := Lib.hid (HP.out.below hbb)
  replace HQ := Lib.hid (HQ.out.below hbb)
  replace HB := Lib.hid (tr HB.out hbb)
  have HR := Lib.hid (hk.ints (n := sz (toN xs ^^^ toN ys)) (ofN_length _) (by omega))
  clear hb hbb
  clear hk hg
  go_wp2_with fail
  refine (refadd_any _ _ _ _ _ _ _ _ _ HX.out HBX.out HY.out HBY.out (by omega) (by omega)).mono ?_
  rintro e w8 ⟨a_radd, c_radd, rfl, hI, hb⟩
  have hbb := hb
  replace HX := Lib.hid (HX.out.below hbb)
  replace HY := Lib.hid (HY.out.below hbb)
  replace HP := Lib.hid (HP.out.below hbb)
  replace HQ := Lib.hid (HQ.out.below hbb)
  replace HR := Lib.hid (HR.out.below hbb)
  replace HB := Lib.hid (tr HB.out hbb)
  have HR2 := Lib.hid (hI)
  clear hb hbb
  clear hI
  go_wp2_with fail
  refine (lawsame_any _ _ _ _ _ _ _ _ _ HR.out HR2.out).mono ?_
  rintro e w9 ⟨rfl, hb⟩
  rw [eqL_true rfl]
  have hbb := hb
  clear HR HR2
  replace HX := Lib.hid (HX.out.below hbb)
  replace HY := Lib.hid (HY.out.below hbb)
  replace HP := Lib.hid (HP.out.below hbb)
  replace HQ := Lib.hid (HQ.out.below hbb)
  replace HB := Lib.hid (tr HB.out hbb)
  clear hb hbb
  go_wp2_with fail
  refine (mul_any _ _ _ _ _ _ _ _ _ HP.out HBX.out HQ.out HBY.out (by omega) (by omega)).mono ?_
  rintro e w10 ⟨g_mul, rfl, hg, hk, hb⟩
  have hs_mul : sz (cmul (toN xs) (toN ys)) ≤ 1000 := by
    have h1 := sz_toN_le xs; rw [HX.out.len] at h1; have h2 := sz_toN_le ys; rw [HY.out.len] at h2; have h3 := sz_le (cmul_lt (lt_sz (toN xs)) (lt_sz (toN ys))); omega
  have hbb := hb
  replace HX := Lib.hid (HX.out.below hbb)
  replace HY := Lib.hid (HY.out.below hbb)
  replace HP := Lib.hid (HP.out.below hbb)
  replace HQ := Lib.hid (HQ.out.below hbb)
  replace HB := Lib.hid (tr HB.out hbb)
  have HR := Lib.hid (hk.ints (n := sz (cmul (toN xs) (toN ys))) (ofN_length _) (by omega))
  clear hb hbb
  clear hk hg
  go_wp2_with fail
  refine (refmul_any _ _ _ _ _ _ _ _ _ HX.out HBX.out HY.out HBY.out (by omega) (by omega)).mono ?_
  rintro e w11 ⟨a_rmul, c_rmul, rfl, hI, hb⟩
  have hbb := hb
  replace HX := Lib.hid (HX.out.below hbb)
  replace HY := Lib.hid (HY.out.below hbb)
  replace HP := Lib.hid (HP.out.below hbb)
  replace HQ := Lib.hid (HQ.out.below hbb)
  replace HR := Lib.hid (HR.out.below hbb)
  replace HB := Lib.hid (tr HB.out hbb)
  have HR2 := Lib.hid (hI)
  clear hb hbb
  clear hI
  go_wp2_with fail
  refine (lawsame_any _ _ _ _ _ _ _ _ _ HR.out HR2.out).mono ?_
  rintro e w12 ⟨rfl, hb⟩
  rw [eqL_true rfl]
  have hbb := hb
  clear HR HR2
  replace HX := Lib.hid (HX.out.below hbb)
  replace HY := Lib.hid (HY.out.below hbb)
  replace HP := Lib.hid (HP.out.below hbb)
  replace HQ := Lib.hid (HQ.out.below hbb)
  replace HB := Lib.hid (tr HB.out hbb)
  clear hb hbb
  go_wp2_with fail
  refine (reduce_any _ _ _ _ _ HP.out HBX.out (by omega)).mono ?_
  rintro e w13 ⟨g_red, rfl, hg, hk, hb⟩
  have hs_red : sz (toN xs) ≤ 1000 := by
    have h1 := sz_toN_le xs; rw [HX.out.len] at h1; have h2 := sz_toN_le ys; rw [HY.out.len] at h2; omega
  have hbb := hb
  replace HX := Lib.hid (HX.out.below hbb)
  replace HY := Lib.hid (HY.out.below hbb)
  replace HP := Lib.hid (HP.out.below hbb)
  replace HQ := Lib.hid (HQ.out.below hbb)
  replace HB := Lib.hid (tr HB.out hbb)
  have HR := Lib.hid (hk.ints (n := sz (toN xs)) (ofN_length _) (by omega))
  clear hb hbb
  clear hk hg
  go_wp2_with fail
  refine (refreduce_any _ _ _ _ _ HX.out HBX.out (by omega)).mono ?_
  rintro e w14 ⟨a_rred, c_rred, rfl, hI, hb⟩
  have hbb := hb
  replace HX := Lib.hid (HX.out.below hbb)
  replace HY := Lib.hid (HY.out.below hbb)
  replace HP := Lib.hid (HP.out.below hbb)
  replace HQ := Lib.hid (HQ.out.below hbb)
  replace HR := Lib.hid (HR.out.below hbb)
  replace HB := Lib.hid (tr HB.out hbb)
  have HR2 := Lib.hid (hI)
  clear hb hbb
  clear hI
  go_wp2_with fail
  refine (lawsame_any _ _ _ _ _ _ _ _ _ HR.out HR2.out).mono ?_
  rintro e w15 ⟨rfl, hb⟩
  rw [eqL_true rfl]
  have hbb := hb
  clear HR HR2
  replace HX := Lib.hid (HX.out.below hbb)
  replace HY := Lib.hid (HY.out.below hbb)
  replace HP := Lib.hid (HP.out.below hbb)
  replace HQ := Lib.hid (HQ.out.below hbb)
  replace HB := Lib.hid (tr HB.out hbb)
  clear hb hbb
  go_wp2_with fail
  refine (degree_any _ _ _ _ _ HP.out HBX.out).mono ?_
  rintro e w16 ⟨rfl, hb⟩
  have hbb := hb
  replace HX := Lib.hid (HX.out.below hbb)
  replace HY := Lib.hid (HY.out.below hbb)
  replace HP := Lib.hid (HP.out.below hbb)
  replace HQ := Lib.hid (HQ.out.below hbb)
  replace HB := Lib.hid (tr HB.out hbb)
  clear hb hbb
  go_wp2_with fail
  refine (refreduce_any _ _ _ _ _ HX.out HBX.out (by omega)).mono ?_
  rintro e w17 ⟨a_rred2, c_rred2, rfl, hI, hb⟩
  have hbb := hb
  replace HX := Lib.hid (HX.out.below hbb)
  replace HY := Lib.hid (HY.out.below hbb)
  replace HP := Lib.hid (HP.out.below hbb)
  replace HQ := Lib.hid (HQ.out.below hbb)
  replace HB := Lib.hid (tr HB.out hbb)
  have HR2 := Lib.hid (hI)
  clear hb hbb
  clear hI
  go_wp2_with fail
  refine (lawsame_any _ _ _ _ _ _ _ _ _ HP.out HX.out).mono ?_
  rintro e w18 ⟨rfl, hb⟩
  rw [eqL_true rfl]
  have hbb := hb
  replace HX := Lib.hid (HX.out.below hbb)
  replace HY := Lib.hid (HY.out.below hbb)
  replace HP := Lib.hid (HP.out.below hbb)
  replace HQ := Lib.hid (HQ.out.below hbb)
  replace HR2 := Lib.hid (HR2.out.below hbb)
  replace HB := Lib.hid (tr HB.out hbb)
  clear hb hbb
  go_wp2_with fail
  refine (lawsame_any _ _ _ _ _ _ _ _ _ HQ.out HY.out).mono ?_
  rintro e w19 ⟨rfl, hb⟩
  rw [eqL_true rfl]
  have hbb := hb
  replace HX := Lib.hid (HX.out.below hbb)
  replace HY := Lib.hid (HY.out.below hbb)
  replace HP := Lib.hid (HP.out.below hbb)
  replace HQ := Lib.hid (HQ.out.below hbb)
  replace HR2 := Lib.hid (HR2.out.below hbb)
  replace HB := Lib.hid (tr HB.out hbb)
  clear hb hbb
  go_wp2
  go_ret
  exact ⟨rfl, HB.out⟩

theorem walk_PolyMatchesReference (a b : Option Addr) (n c m d : Nat) (xs ys : List Int) (w : World) (hx : Ints .u8 w a n c xs) (hB : Byt xs) (hy : Ints .u8 w b m d ys) (hB2 : Byt ys) :
    Calls Try.prog 3 #[.slice a n c, .slice b m d] w fun e w' => e = .returned (.bool true) ∧ Below w.heap.size w w' := by
  by_cases hbig : 200 < n ∨ n ≤ 200 ∧ 200 < m
  · exact walk_PolyMatches_big a b n c m d w hbig
  · by_cases h0 : toN ys = 0
    · exact walk_PolyMatches_no a b n c m d xs ys w hx hB hy hB2 (by omega) (by omega) h0
    · exact walk_PolyMatches_yes a b n c m d xs ys w hx hB hy hB2 (by omega) (by omega) h0
end Go.Proofs.Ytadlmefdkpbflaa

/- The walk of PolyLaws (printed by polywalk.py). -/
import Derived.Test.YtadlmefdkpbflaaPoly16
namespace Go.Proofs.Ytadlmefdkpbflaa
open Go.RowKit

theorem sz_xor_le {x y N : Nat} (h : sz x ≤ N) (k : sz y ≤ N) : sz (x ^^^ y) ≤ N := by have := sz_xor (x := x) (y := y) (n := N + 1) (by omega) (by omega); omega
theorem sz_cmul_le (x y : Nat) : sz (cmul x y) ≤ sz x + sz y := sz_le (cmul_lt (lt_sz x) (lt_sz y))
theorem sz_ints {k : IntKind} {w : World} {a : Option Addr} {n c : Nat} {zs : List Int} (h : Ints k w a n c zs) : sz (toN zs) ≤ n := by have := sz_toN_le zs; rw [h.len] at this; exact this
theorem isMod_rest {p h r : Nat} (hm : IsMod p h r) : ∀ s, IsMod (p ^^^ r) h s → s = 0 := fun s k => by
  obtain ⟨h1, q, rfl⟩ := hm
  have h0 : h ≠ 0 := fun e => by rw [e] at h1; simp [sz] at h1
  have := k.uniq (IsMod.zero (g := h) q h0 |> fun z => by rw [Nat.xor_assoc, Nat.xor_self, Nat.xor_zero]; exact z)
  exact this
theorem isMod_mul {p h s : Nat} (h0 : h ≠ 0) (k : IsMod (cmul h p) h s) : s = 0 := by
  rw [cmul_comm] at k
  exact k.uniq (IsMod.zero (g := h) p h0)

theorem walk_PolyLaws_big (a b l : Option Addr) (n c m d p e0 : Nat) (w : World) (hbig : 100 < n ∨ n ≤ 100 ∧ 100 < m ∨ n ≤ 100 ∧ m ≤ 100 ∧ 100 < p) :
    Calls Try.prog 4 #[.slice a n c, .slice b m d, .slice l p e0] w fun e w' => e = .returned (.bool true) ∧ Below w.heap.size w w' := by
  have HB := Lib.hid (Below.refl w.heap.size w)
  rcases hbig with h | ⟨h, h2⟩ | ⟨h, h2, h3⟩
  · go_enter Try.func4, Try.ntmps4
    go_wp2_with fail
    refine (awake_any _).mono ?_
    rintro e w1 ⟨rfl, hb⟩
    have hbb := hb
    replace HB := Lib.hid (tr HB.out hbb)
    clear hb hbb
    go_wp2_with fail
    refine (awake_any _).mono ?_
    rintro e w2 ⟨rfl, hb⟩
    have hbb := hb
    replace HB := Lib.hid (tr HB.out hbb)
    clear hb hbb
    go_wp2
    go_ret
    exact ⟨rfl, HB.out⟩
  · go_enter Try.func4, Try.ntmps4
    go_wp2_with fail
    refine (awake_any _).mono ?_
    rintro e w1 ⟨rfl, hb⟩
    have hbb := hb
    replace HB := Lib.hid (tr HB.out hbb)
    clear hb hbb
    go_wp2_with fail
    refine (awake_any _).mono ?_
    rintro e w2 ⟨rfl, hb⟩
    have hbb := hb
    replace HB := Lib.hid (tr HB.out hbb)
    clear hb hbb
    go_wp2
    go_ret
    exact ⟨rfl, HB.out⟩
  · go_enter Try.func4, Try.ntmps4
    go_wp2_with fail
    refine (awake_any _).mono ?_
    rintro e w1 ⟨rfl, hb⟩
    have hbb := hb
    replace HB := Lib.hid (tr HB.out hbb)
    clear hb hbb
    go_wp2_with fail
    refine (awake_any _).mono ?_
    rintro e w2 ⟨rfl, hb⟩
    have hbb := hb
    replace HB := Lib.hid (tr HB.out hbb)
    clear hb hbb
    go_wp2
    go_ret
    exact ⟨rfl, HB.out⟩

set_option maxHeartbeats 8000000 in
set_option maxRecDepth 100000 in
theorem walk_PolyLaws_no (a b l : Option Addr) (n c m d p e0 : Nat) (xs ys gs : List Int) (w : World) (hx : Ints .u8 w a n c xs) (hB : Byt xs) (hy : Ints .u8 w b m d ys) (hB2 : Byt ys) (hg : Ints .u8 w l p e0 gs) (hB3 : Byt gs) (hn : n ≤ 100) (hm : m ≤ 100) (hp : p ≤ 100) (h0 : toN gs = 0) :
    Calls Try.prog 4 #[.slice a n c, .slice b m d, .slice l p e0] w fun e w' => e = .returned (.bool true) ∧ Below w.heap.size w w' := by
  have hcc := hx.cap
  have hdd := hy.cap
  have hee := hg.cap
  have hs_x := sz_ints hx
  have hs_y := sz_ints hy
  have hs_g := sz_ints hg
  have HB := Lib.hid (Below.refl w.heap.size w)
  have HX := Lib.hid hx
  have HY := Lib.hid hy
  have HG := Lib.hid hg
  have HBX := Lib.hid hB
  have HBY := Lib.hid hB2
  have HBG := Lib.hid hB3
  have H0 := Lib.hid h0
  clear hx hy hg hB hB2 hB3 h0
  go_enter Try.func4, Try.ntmps4
  go_wp2_with fail
  refine (awake_any _).mono ?_
  rintro e w1 ⟨rfl, hb⟩
  have hbb := hb
  replace HX := Lib.hid (HX.out.below hbb)
  replace HY := Lib.hid (HY.out.below hbb)
  replace HG := Lib.hid (HG.out.below hbb)
  replace HB := Lib.hid (tr HB.out hbb)
  clear hb hbb
  go_wp2_with fail
  refine (add_any _ _ _ _ _ _ ⟨b, m, d, ys⟩ _ ((HX.out).below (al (Below.refl _ w1) _)) HBX.out (parts_one HY.out HBY.out) (by omega) (by show m ≤ _; omega)).mono ?_
  rintro e w2 ⟨g_s1, rfl, hg, hk, hb⟩
  have hs_s1 : sz (toN xs ^^^ toN ys) ≤ 1000 := by
    exact sz_xor_le (by omega) (by omega)
  have hbb := (al (Below.refl _ w1) (.cells #[.slice b m d] 24)).trans (hb.mono (by simp))
  replace HX := Lib.hid (HX.out.below hbb)
  replace HY := Lib.hid (HY.out.below hbb)
  replace HG := Lib.hid (HG.out.below hbb)
  replace HB := Lib.hid (tr HB.out hbb)
  have HS1 := Lib.hid (hk.ints (n := sz (toN xs ^^^ toN ys)) (ofN_length _) (by omega))
  clear hb hbb
  clear hk hg
  go_wp2_with fail
  refine (mul_any _ _ _ _ _ _ _ _ _ HG.out HBG.out HS1.out (ofN_byt _) (by omega) (by omega)).mono ?_
  rintro e w3 ⟨g_m1, rfl, hg, hk, hb⟩
  simp only [toN_ofN] at hk ⊢
  have hs_m1 : sz (cmul (toN gs) (toN xs ^^^ toN ys)) ≤ 1000 := by
    have := sz_cmul_le (toN gs) (toN xs ^^^ toN ys); have := sz_xor_le (x := toN xs) (y := toN ys) (N := 100) (by omega) (by omega); omega
  have hbb := hb
  clear HS1
  replace HX := Lib.hid (HX.out.below hbb)
  replace HY := Lib.hid (HY.out.below hbb)
  replace HG := Lib.hid (HG.out.below hbb)
  replace HB := Lib.hid (tr HB.out hbb)
  have HM1 := Lib.hid (hk.ints (n := sz (cmul (toN gs) (toN xs ^^^ toN ys))) (ofN_length _) (by omega))
  clear hb hbb
  clear hk hg
  go_wp2_with fail
  refine (mul_any _ _ _ _ _ _ _ _ _ HG.out HBG.out HX.out HBX.out (by omega) (by omega)).mono ?_
  rintro e w4 ⟨g_m2, rfl, hg, hk, hb⟩
  have hs_m2 : sz (cmul (toN gs) (toN xs)) ≤ 1000 := by
    have := sz_cmul_le (toN gs) (toN xs); omega
  have hbb := hb
  replace HX := Lib.hid (HX.out.below hbb)
  replace HY := Lib.hid (HY.out.below hbb)
  replace HG := Lib.hid (HG.out.below hbb)
  replace HM1 := Lib.hid (HM1.out.below hbb)
  replace HB := Lib.hid (tr HB.out hbb)
  have HM2 := Lib.hid (hk.ints (n := sz (cmul (toN gs) (toN xs))) (ofN_length _) (by omega))
  clear hb hbb
  clear hk hg
  go_wp2_with fail
  refine (mul_any _ _ _ _ _ _ _ _ _ HG.out HBG.out HY.out HBY.out (by omega) (by omega)).mono ?_
  rintro e w5 ⟨g_m3, rfl, hg, hk, hb⟩
  have hs_m3 : sz (cmul (toN gs) (toN ys)) ≤ 1000 := by
    have := sz_cmul_le (toN gs) (toN ys); omega
  have hbb := hb
  replace HX := Lib.hid (HX.out.below hbb)
  replace HY := Lib.hid (HY.out.below hbb)
  replace HG := Lib.hid (HG.out.below hbb)
  replace HM1 := Lib.hid (HM1.out.below hbb)
  replace HM2 := Lib.hid (HM2.out.below hbb)
  replace HB := Lib.hid (tr HB.out hbb)
  have HM3 := Lib.hid (hk.ints (n := sz (cmul (toN gs) (toN ys))) (ofN_length _) (by omega))
  clear hb hbb
  clear hk hg
  go_wp2_with fail
  refine (add_any _ _ _ _ _ _ ⟨some ⟨g_m3, 0, none⟩, sz (cmul (toN gs) (toN ys)), sz (cmul (toN gs) (toN ys)), ofN (cmul (toN gs) (toN ys))⟩ _ ((HM2.out).below (al (Below.refl _ w5) _)) (ofN_byt _) (parts_one HM3.out (ofN_byt _)) (by omega) (by show sz (cmul (toN gs) (toN ys)) ≤ _; omega)).mono ?_
  rintro e w6 ⟨g_s2, rfl, hg, hk, hb⟩
  simp only [toN_ofN, ← cmul_xor_right] at hk ⊢
  have hs_s2 : sz (cmul (toN gs) (toN xs ^^^ toN ys)) ≤ 1000 := by
    exact hs_m1
  have hbb := (al (Below.refl _ w5) (.cells #[.slice (some ⟨g_m3, 0, none⟩) (sz (cmul (toN gs) (toN ys))) (sz (cmul (toN gs) (toN ys)))] 24)).trans (hb.mono (by simp))
  clear HM2 HM3
  replace HX := Lib.hid (HX.out.below hbb)
  replace HY := Lib.hid (HY.out.below hbb)
  replace HG := Lib.hid (HG.out.below hbb)
  replace HM1 := Lib.hid (HM1.out.below hbb)
  replace HB := Lib.hid (tr HB.out hbb)
  have HS2 := Lib.hid (hk.ints (n := sz (cmul (toN gs) (toN xs ^^^ toN ys))) (ofN_length _) (by omega))
  clear hb hbb
  clear hk hg
  go_wp2_with fail
  refine (lawsame_any _ _ _ _ _ _ _ _ _ HM1.out HS2.out).mono ?_
  rintro e w7 ⟨rfl, hb⟩
  rw [eqL_true rfl]
  have hbb := hb
  clear HM1 HS2
  replace HX := Lib.hid (HX.out.below hbb)
  replace HY := Lib.hid (HY.out.below hbb)
  replace HG := Lib.hid (HG.out.below hbb)
  replace HB := Lib.hid (tr HB.out hbb)
  clear hb hbb
  go_wp2_with fail
  refine (mul_any _ _ _ _ _ _ _ _ _ HX.out HBX.out HY.out HBY.out (by omega) (by omega)).mono ?_
  rintro e w8 ⟨g_m4, rfl, hg, hk, hb⟩
  have hs_m4 : sz (cmul (toN xs) (toN ys)) ≤ 1000 := by
    have := sz_cmul_le (toN xs) (toN ys); omega
  have hbb := hb
  replace HX := Lib.hid (HX.out.below hbb)
  replace HY := Lib.hid (HY.out.below hbb)
  replace HG := Lib.hid (HG.out.below hbb)
  replace HB := Lib.hid (tr HB.out hbb)
  have HM4 := Lib.hid (hk.ints (n := sz (cmul (toN xs) (toN ys))) (ofN_length _) (by omega))
  clear hb hbb
  clear hk hg
  go_wp2_with fail
  refine (mul_any _ _ _ _ _ _ _ _ _ HY.out HBY.out HX.out HBX.out (by omega) (by omega)).mono ?_
  rintro e w9 ⟨g_m5, rfl, hg, hk, hb⟩
  rw [cmul_comm (toN ys)] at hk ⊢
  have hs_m5 : sz (cmul (toN xs) (toN ys)) ≤ 1000 := by
    exact hs_m4
  have hbb := hb
  replace HX := Lib.hid (HX.out.below hbb)
  replace HY := Lib.hid (HY.out.below hbb)
  replace HG := Lib.hid (HG.out.below hbb)
  replace HM4 := Lib.hid (HM4.out.below hbb)
  replace HB := Lib.hid (tr HB.out hbb)
  have HM5 := Lib.hid (hk.ints (n := sz (cmul (toN xs) (toN ys))) (ofN_length _) (by omega))
  clear hb hbb
  clear hk hg
  go_wp2_with fail
  refine (lawsame_any _ _ _ _ _ _ _ _ _ HM4.out HM5.out).mono ?_
  rintro e w10 ⟨rfl, hb⟩
  rw [eqL_true rfl]
  have hbb := hb
  clear HM4 HM5
  replace HX := Lib.hid (HX.out.below hbb)
  replace HY := Lib.hid (HY.out.below hbb)
  replace HG := Lib.hid (HG.out.below hbb)
  replace HB := Lib.hid (tr HB.out hbb)
  clear hb hbb
  go_wp2_with fail
  refine (mod_no _ _ _ _ _ _ _ _ HG.out HBG.out H0.out).mono ?_
  rintro e w11 ⟨rfl, hb⟩
  have hbb := hb
  replace HX := Lib.hid (HX.out.below hbb)
  replace HY := Lib.hid (HY.out.below hbb)
  replace HG := Lib.hid (HG.out.below hbb)
  replace HB := Lib.hid (tr HB.out hbb)
  clear hb hbb
  go_wp2_with fail
  refine (mod_no _ _ _ _ _ _ _ _ HG.out HBG.out H0.out).mono ?_
  rintro e w12 ⟨rfl, hb⟩
  have hbb := hb
  replace HX := Lib.hid (HX.out.below hbb)
  replace HY := Lib.hid (HY.out.below hbb)
  replace HG := Lib.hid (HG.out.below hbb)
  replace HB := Lib.hid (tr HB.out hbb)
  clear hb hbb
  go_wp2_with fail
  refine (refreduce_any _ _ _ _ _ HG.out HBG.out (by omega)).mono ?_
  rintro e w13 ⟨a_rr, c_rr, rfl, hI, hb⟩
  rw [H0.out, show sz 0 = 0 from rfl]
  have hbb := hb
  replace HX := Lib.hid (HX.out.below hbb)
  replace HY := Lib.hid (HY.out.below hbb)
  replace HG := Lib.hid (HG.out.below hbb)
  replace HB := Lib.hid (tr HB.out hbb)
  clear hb hbb
  go_wp2
  go_ret
  exact ⟨rfl, HB.out⟩

set_option maxHeartbeats 8000000 in
set_option maxRecDepth 100000 in
theorem walk_PolyLaws_yes (a b l : Option Addr) (n c m d p e0 : Nat) (xs ys gs : List Int) (w : World) (hx : Ints .u8 w a n c xs) (hB : Byt xs) (hy : Ints .u8 w b m d ys) (hB2 : Byt ys) (hg : Ints .u8 w l p e0 gs) (hB3 : Byt gs) (hn : n ≤ 100) (hm : m ≤ 100) (hp : p ≤ 100) (h0 : toN gs ≠ 0) :
    Calls Try.prog 4 #[.slice a n c, .slice b m d, .slice l p e0] w fun e w' => e = .returned (.bool true) ∧ Below w.heap.size w w' := by
  have hcc := hx.cap
  have hdd := hy.cap
  have hee := hg.cap
  have hs_x := sz_ints hx
  have hs_y := sz_ints hy
  have hs_g := sz_ints hg
  have HB := Lib.hid (Below.refl w.heap.size w)
  have HX := Lib.hid hx
  have HY := Lib.hid hy
  have HG := Lib.hid hg
  have HBX := Lib.hid hB
  have HBY := Lib.hid hB2
  have HBG := Lib.hid hB3
  have H0 := Lib.hid h0
  clear hx hy hg hB hB2 hB3 h0
  go_enter Try.func4, Try.ntmps4
  go_wp2_with fail
  refine (awake_any _).mono ?_
  rintro e w1 ⟨rfl, hb⟩
  have hbb := hb
  replace HX := Lib.hid (HX.out.below hbb)
  replace HY := Lib.hid (HY.out.below hbb)
  replace HG := Lib.hid (HG.out.below hbb)
  replace HB := Lib.hid (tr HB.out hbb)
  clear hb hbb
  go_wp2_with fail
  refine (add_any _ _ _ _ _ _ ⟨b, m, d, ys⟩ _ ((HX.out).below (al (Below.refl _ w1) _)) HBX.out (parts_one HY.out HBY.out) (by omega) (by show m ≤ _; omega)).mono ?_
  rintro e w2 ⟨g_s1, rfl, hg, hk, hb⟩
  have hs_s1 : sz (toN xs ^^^ toN ys) ≤ 1000 := by
    exact sz_xor_le (by omega) (by omega)
  have hbb := (al (Below.refl _ w1) (.cells #[.slice b m d] 24)).trans (hb.mono (by simp))
  replace HX := Lib.hid (HX.out.below hbb)
  replace HY := Lib.hid (HY.out.below hbb)
  replace HG := Lib.hid (HG.out.below hbb)
  replace HB := Lib.hid (tr HB.out hbb)
  have HS1 := Lib.hid (hk.ints (n := sz (toN xs ^^^ toN ys)) (ofN_length _) (by omega))
  clear hb hbb
  clear hk hg
  go_wp2_with fail
  refine (mul_any _ _ _ _ _ _ _ _ _ HG.out HBG.out HS1.out (ofN_byt _) (by omega) (by omega)).mono ?_
  rintro e w3 ⟨g_m1, rfl, hg, hk, hb⟩
  simp only [toN_ofN] at hk ⊢
  have hs_m1 : sz (cmul (toN gs) (toN xs ^^^ toN ys)) ≤ 1000 := by
    have := sz_cmul_le (toN gs) (toN xs ^^^ toN ys); have := sz_xor_le (x := toN xs) (y := toN ys) (N := 100) (by omega) (by omega); omega
  have hbb := hb
  clear HS1
  replace HX := Lib.hid (HX.out.below hbb)
  replace HY := Lib.hid (HY.out.below hbb)
  replace HG := Lib.hid (HG.out.below hbb)
  replace HB := Lib.hid (tr HB.out hbb)
  have HM1 := Lib.hid (hk.ints (n := sz (cmul (toN gs) (toN xs ^^^ toN ys))) (ofN_length _) (by omega))
  clear hb hbb
  clear hk hg
  go_wp2_with fail
  refine (mul_any _ _ _ _ _ _ _ _ _ HG.out HBG.out HX.out HBX.out (by omega) (by omega)).mono ?_
  rintro e w4 ⟨g_m2, rfl, hg, hk, hb⟩
  have hs_m2 : sz (cmul (toN gs) (toN xs)) ≤ 1000 := by
    have := sz_cmul_le (toN gs) (toN xs); omega
  have hbb := hb
  replace HX := Lib.hid (HX.out.below hbb)
  replace HY := Lib.hid (HY.out.below hbb)
  replace HG := Lib.hid (HG.out.below hbb)
  replace HM1 := Lib.hid (HM1.out.below hbb)
  replace HB := Lib.hid (tr HB.out hbb)
  have HM2 := Lib.hid (hk.ints (n := sz (cmul (toN gs) (toN xs))) (ofN_length _) (by omega))
  clear hb hbb
  clear hk hg
  go_wp2_with fail
  refine (mul_any _ _ _ _ _ _ _ _ _ HG.out HBG.out HY.out HBY.out (by omega) (by omega)).mono ?_
  rintro e w5 ⟨g_m3, rfl, hg, hk, hb⟩
  have hs_m3 : sz (cmul (toN gs) (toN ys)) ≤ 1000 := by
    have := sz_cmul_le (toN gs) (toN ys); omega
  have hbb := hb
  replace HX := Lib.hid (HX.out.below hbb)
  replace HY := Lib.hid (HY.out.below hbb)
  replace HG := Lib.hid (HG.out.below hbb)
  replace HM1 := Lib.hid (HM1.out.below hbb)
  replace HM2 := Lib.hid (HM2.out.below hbb)
  replace HB := Lib.hid (tr HB.out hbb)
  have HM3 := Lib.hid (hk.ints (n := sz (cmul (toN gs) (toN ys))) (ofN_length _) (by omega))
  clear hb hbb
  clear hk hg
  go_wp2_with fail
  refine (add_any _ _ _ _ _ _ ⟨some ⟨g_m3, 0, none⟩, sz (cmul (toN gs) (toN ys)), sz (cmul (toN gs) (toN ys)), ofN (cmul (toN gs) (toN ys))⟩ _ ((HM2.out).below (al (Below.refl _ w5) _)) (ofN_byt _) (parts_one HM3.out (ofN_byt _)) (by omega) (by show sz (cmul (toN gs) (toN ys)) ≤ _; omega)).mono ?_
  rintro e w6 ⟨g_s2, rfl, hg, hk, hb⟩
  simp only [toN_ofN, ← cmul_xor_right] at hk ⊢
  have hs_s2 : sz (cmul (toN gs) (toN xs ^^^ toN ys)) ≤ 1000 := by
    exact hs_m1
  have hbb := (al (Below.refl _ w5) (.cells #[.slice (some ⟨g_m3, 0, none⟩) (sz (cmul (toN gs) (toN ys))) (sz (cmul (toN gs) (toN ys)))] 24)).trans (hb.mono (by simp))
  clear HM2 HM3
  replace HX := Lib.hid (HX.out.below hbb)
  replace HY := Lib.hid (HY.out.below hbb)
  replace HG := Lib.hid (HG.out.below hbb)
  replace HM1 := Lib.hid (HM1.out.below hbb)
  replace HB := Lib.hid (tr HB.out hbb)
  have HS2 := Lib.hid (hk.ints (n := sz (cmul (toN gs) (toN xs ^^^ toN ys))) (ofN_length _) (by omega))
  clear hb hbb
  clear hk hg
  go_wp2_with fail
  refine (lawsame_any _ _ _ _ _ _ _ _ _ HM1.out HS2.out).mono ?_
  rintro e w7 ⟨rfl, hb⟩
  rw [eqL_true rfl]
  have hbb := hb
  clear HM1 HS2
  replace HX := Lib.hid (HX.out.below hbb)
  replace HY := Lib.hid (HY.out.below hbb)
  replace HG := Lib.hid (HG.out.below hbb)
  replace HB := Lib.hid (tr HB.out hbb)
  clear hb hbb
  go_wp2_with fail
  refine (mul_any _ _ _ _ _ _ _ _ _ HX.out HBX.out HY.out HBY.out (by omega) (by omega)).mono ?_
  rintro e w8 ⟨g_m4, rfl, hg, hk, hb⟩
  have hs_m4 : sz (cmul (toN xs) (toN ys)) ≤ 1000 := by
    have := sz_cmul_le (toN xs) (toN ys); omega
  have hbb := hb
  replace HX := Lib.hid (HX.out.below hbb)
  replace HY := Lib.hid (HY.out.below hbb)
  replace HG := Lib.hid (HG.out.below hbb)
  replace HB := Lib.hid (tr HB.out hbb)
  have HM4 := Lib.hid (hk.ints (n := sz (cmul (toN xs) (toN ys))) (ofN_length _) (by omega))
  clear hb hbb
  clear hk hg
  go_wp2_with fail
  refine (mul_any _ _ _ _ _ _ _ _ _ HY.out HBY.out HX.out HBX.out (by omega) (by omega)).mono ?_
  rintro e w9 ⟨g_m5, rfl, hg, hk, hb⟩
  rw [cmul_comm (toN ys)] at hk ⊢
  have hs_m5 : sz (cmul (toN xs) (toN ys)) ≤ 1000 := by
    exact hs_m4
  have hbb := hb
  replace HX := Lib.hid (HX.out.below hbb)
  replace HY := Lib.hid (HY.out.below hbb)
  replace HG := Lib.hid (HG.out.below hbb)
  replace HM4 := Lib.hid (HM4.out.below hbb)
  replace HB := Lib.hid (tr HB.out hbb)
  have HM5 := Lib.hid (hk.ints (n := sz (cmul (toN xs) (toN ys))) (ofN_length _) (by omega))
  clear hb hbb
  clear hk hg
  go_wp2_with fail
  refine (lawsame_any _ _ _ _ _ _ _ _ _ HM4.out HM5.out).mono ?_
  rintro e w10 ⟨rfl, hb⟩
  rw [eqL_true rfl]
  have hbb := hb
  clear HM4 HM5
  replace HX := Lib.hid (HX.out.below hbb)
  replace HY := Lib.hid (HY.out.below hbb)
  replace HG := Lib.hid (HG.out.below hbb)
  replace HB := Lib.hid (tr HB.out hbb)
  clear hb hbb
  go_wp2_with fail
  refine (mod_yes _ _ _ _ _ _ _ _ _ HX.out HBX.out HG.out HBG.out (by omega) (by omega) H0.out).mono ?_
  rintro e w11 ⟨g_rx, rx, rfl, hm_rx, hg, hk, hb⟩
  have hs_rx : sz rx ≤ 100 := by have := hm_rx.1; omega
  have HM_rx := Lib.hid hm_rx
  have hbb := hb
  replace HX := Lib.hid (HX.out.below hbb)
  replace HY := Lib.hid (HY.out.below hbb)
  replace HG := Lib.hid (HG.out.below hbb)
  replace HB := Lib.hid (tr HB.out hbb)
  have HRX := Lib.hid (hk.ints (n := sz rx) (ofN_length _) (by omega))
  clear hb hbb
  clear hk hg hm_rx
  go_wp2_with fail
  refine (mod_yes _ _ _ _ _ _ _ _ _ HY.out HBY.out HG.out HBG.out (by omega) (by omega) H0.out).mono ?_
  rintro e w12 ⟨g_ry, ry, rfl, hm_ry, hg, hk, hb⟩
  have hs_ry : sz ry ≤ 100 := by have := hm_ry.1; omega
  have HM_ry := Lib.hid hm_ry
  have hbb := hb
  replace HX := Lib.hid (HX.out.below hbb)
  replace HY := Lib.hid (HY.out.below hbb)
  replace HG := Lib.hid (HG.out.below hbb)
  replace HRX := Lib.hid (HRX.out.below hbb)
  replace HB := Lib.hid (tr HB.out hbb)
  have HRY := Lib.hid (hk.ints (n := sz ry) (ofN_length _) (by omega))
  clear hb hbb
  clear hk hg hm_ry
  go_wp2_with fail
  refine (add_any _ _ _ _ _ _ ⟨b, m, d, ys⟩ _ ((HX.out).below (al (Below.refl _ w12) _)) HBX.out (parts_one HY.out HBY.out) (by omega) (by show m ≤ _; omega)).mono ?_
  rintro e w13 ⟨g_s3, rfl, hg, hk, hb⟩
  have hs_s3 : sz (toN xs ^^^ toN ys) ≤ 1000 := by
    exact sz_xor_le (by omega) (by omega)
  have hbb := (al (Below.refl _ w12) (.cells #[.slice b m d] 24)).trans (hb.mono (by simp))
  replace HX := Lib.hid (HX.out.below hbb)
  replace HY := Lib.hid (HY.out.below hbb)
  replace HG := Lib.hid (HG.out.below hbb)
  replace HRX := Lib.hid (HRX.out.below hbb)
  replace HRY := Lib.hid (HRY.out.below hbb)
  replace HB := Lib.hid (tr HB.out hbb)
  have HS3 := Lib.hid (hk.ints (n := sz (toN xs ^^^ toN ys)) (ofN_length _) (by omega))
  clear hb hbb
  clear hk hg
  go_wp2_with fail
  refine (mod_yes _ _ _ _ _ _ _ _ _ HS3.out (ofN_byt _) HG.out HBG.out (by omega) (by omega) H0.out).mono ?_
  rintro e w14 ⟨g_rz, rz, rfl, hm_rz, hg, hk, hb⟩
  simp only [toN_ofN] at hm_rz
  have hs_rz : sz rz ≤ 100 := by have := hm_rz.1; omega
  have HM_rz := Lib.hid hm_rz
  have hbb := hb
  clear HS3
  replace HX := Lib.hid (HX.out.below hbb)
  replace HY := Lib.hid (HY.out.below hbb)
  replace HG := Lib.hid (HG.out.below hbb)
  replace HRX := Lib.hid (HRX.out.below hbb)
  replace HRY := Lib.hid (HRY.out.below hbb)
  replace HB := Lib.hid (tr HB.out hbb)
  have HRZ := Lib.hid (hk.ints (n := sz rz) (ofN_length _) (by omega))
  clear hb hbb
  clear hk hg hm_rz
  go_wp2_with fail
  refine (add_any _ _ _ _ _ _ ⟨some ⟨g_rx, 0, none⟩, sz rx, sz rx, ofN rx⟩ _ ((HX.out).below (al (Below.refl _ w14) _)) HBX.out (parts_one HRX.out (ofN_byt _)) (by omega) (by show sz rx ≤ _; omega)).mono ?_
  rintro e w15 ⟨g_s4, rfl, hg, hk, hb⟩
  simp only [toN_ofN] at hk ⊢
  have hs_s4 : sz (toN xs ^^^ rx) ≤ 1000 := by
    exact sz_xor_le (by omega) (by omega)
  have hbb := (al (Below.refl _ w14) (.cells #[.slice (some ⟨g_rx, 0, none⟩) (sz rx) (sz rx)] 24)).trans (hb.mono (by simp))
  replace HX := Lib.hid (HX.out.below hbb)
  replace HY := Lib.hid (HY.out.below hbb)
  replace HG := Lib.hid (HG.out.below hbb)
  replace HRX := Lib.hid (HRX.out.below hbb)
  replace HRY := Lib.hid (HRY.out.below hbb)
  replace HRZ := Lib.hid (HRZ.out.below hbb)
  replace HB := Lib.hid (tr HB.out hbb)
  have HS4 := Lib.hid (hk.ints (n := sz (toN xs ^^^ rx)) (ofN_length _) (by omega))
  clear hb hbb
  clear hk hg
  go_wp2_with fail
  refine (mod_yes _ _ _ _ _ _ _ _ _ HS4.out (ofN_byt _) HG.out HBG.out (by omega) (by omega) H0.out).mono ?_
  rintro e w16 ⟨g_rw, rw, rfl, hm_rw, hg, hk, hb⟩
  simp only [toN_ofN] at hm_rw
  have hs_rw : sz rw ≤ 100 := by have := hm_rw.1; omega
  have HM_rw := Lib.hid hm_rw
  have hbb := hb
  clear HS4
  replace HX := Lib.hid (HX.out.below hbb)
  replace HY := Lib.hid (HY.out.below hbb)
  replace HG := Lib.hid (HG.out.below hbb)
  replace HRX := Lib.hid (HRX.out.below hbb)
  replace HRY := Lib.hid (HRY.out.below hbb)
  replace HRZ := Lib.hid (HRZ.out.below hbb)
  replace HB := Lib.hid (tr HB.out hbb)
  have HRW := Lib.hid (hk.ints (n := sz rw) (ofN_length _) (by omega))
  clear hb hbb
  clear hk hg hm_rw
  go_wp2_with fail
  refine (mul_any _ _ _ _ _ _ _ _ _ HG.out HBG.out HY.out HBY.out (by omega) (by omega)).mono ?_
  rintro e w17 ⟨g_m6, rfl, hg, hk, hb⟩
  have hs_m6 : sz (cmul (toN gs) (toN ys)) ≤ 1000 := by
    exact hs_m3
  have hbb := hb
  replace HX := Lib.hid (HX.out.below hbb)
  replace HY := Lib.hid (HY.out.below hbb)
  replace HG := Lib.hid (HG.out.below hbb)
  replace HRX := Lib.hid (HRX.out.below hbb)
  replace HRY := Lib.hid (HRY.out.below hbb)
  replace HRZ := Lib.hid (HRZ.out.below hbb)
  replace HRW := Lib.hid (HRW.out.below hbb)
  replace HB := Lib.hid (tr HB.out hbb)
  have HM6 := Lib.hid (hk.ints (n := sz (cmul (toN gs) (toN ys))) (ofN_length _) (by omega))
  clear hb hbb
  clear hk hg
  go_wp2_with fail
  refine (mod_yes _ _ _ _ _ _ _ _ _ HM6.out (ofN_byt _) HG.out HBG.out (by omega) (by omega) H0.out).mono ?_
  rintro e w18 ⟨g_rm, rm, rfl, hm_rm, hg, hk, hb⟩
  simp only [toN_ofN] at hm_rm
  have hs_rm : sz rm ≤ 100 := by have := hm_rm.1; omega
  have HM_rm := Lib.hid hm_rm
  have hbb := hb
  clear HM6
  replace HX := Lib.hid (HX.out.below hbb)
  replace HY := Lib.hid (HY.out.below hbb)
  replace HG := Lib.hid (HG.out.below hbb)
  replace HRX := Lib.hid (HRX.out.below hbb)
  replace HRY := Lib.hid (HRY.out.below hbb)
  replace HRZ := Lib.hid (HRZ.out.below hbb)
  replace HRW := Lib.hid (HRW.out.below hbb)
  replace HB := Lib.hid (tr HB.out hbb)
  have HRM := Lib.hid (hk.ints (n := sz rm) (ofN_length _) (by omega))
  clear hb hbb
  clear hk hg hm_rm
  have hz := HM_rz.out.uniq (HM_rx.out.add HM_ry.out)
  subst hz
  have hw := isMod_rest HM_rx.out _ HM_rw.out
  subst hw
  have hmm := isMod_mul H0.out HM_rm.out
  subst hmm
  have hlt := HM_rx.out.1
  rw [show sz 0 = 0 from rfl]
  go_wp2_with fail
  refine (add_any _ _ _ _ _ _ ⟨some ⟨g_ry, 0, none⟩, sz ry, sz ry, ofN ry⟩ _ ((HRX.out).below (al (Below.refl _ w18) _)) (ofN_byt _) (parts_one HRY.out (ofN_byt _)) (by omega) (by show sz ry ≤ _; omega)).mono ?_
  rintro e w19 ⟨g_s5, rfl, hg, hk, hb⟩
  simp only [toN_ofN] at hk ⊢
  have hs_s5 : sz (rx ^^^ ry) ≤ 1000 := by
    exact sz_xor_le (by omega) (by omega)
  have hbb := (al (Below.refl _ w18) (.cells #[.slice (some ⟨g_ry, 0, none⟩) (sz ry) (sz ry)] 24)).trans (hb.mono (by simp))
  replace HX := Lib.hid (HX.out.below hbb)
  replace HY := Lib.hid (HY.out.below hbb)
  replace HG := Lib.hid (HG.out.below hbb)
  replace HRX := Lib.hid (HRX.out.below hbb)
  replace HRY := Lib.hid (HRY.out.below hbb)
  replace HRZ := Lib.hid (HRZ.out.below hbb)
  replace HRW := Lib.hid (HRW.out.below hbb)
  replace HRM := Lib.hid (HRM.out.below hbb)
  replace HB := Lib.hid (tr HB.out hbb)
  have HS5 := Lib.hid (hk.ints (n := sz (rx ^^^ ry)) (ofN_length _) (by omega))
  clear hb hbb
  clear hk hg
  go_wp2_with fail
  refine (lawsame_any _ _ _ _ _ _ _ _ _ HRZ.out HS5.out).mono ?_
  rintro e w20 ⟨rfl, hb⟩
  rw [eqL_true rfl]
  have hbb := hb
  clear HRZ HS5
  replace HX := Lib.hid (HX.out.below hbb)
  replace HY := Lib.hid (HY.out.below hbb)
  replace HG := Lib.hid (HG.out.below hbb)
  replace HRX := Lib.hid (HRX.out.below hbb)
  replace HRY := Lib.hid (HRY.out.below hbb)
  replace HRW := Lib.hid (HRW.out.below hbb)
  replace HRM := Lib.hid (HRM.out.below hbb)
  replace HB := Lib.hid (tr HB.out hbb)
  clear hb hbb
  go_wp2_with fail
  refine (degree_any _ _ _ _ _ HRX.out (ofN_byt _)).mono ?_
  rintro e w21 ⟨rfl, hb⟩
  rw [toN_ofN]
  have hbb := hb
  replace HX := Lib.hid (HX.out.below hbb)
  replace HY := Lib.hid (HY.out.below hbb)
  replace HG := Lib.hid (HG.out.below hbb)
  replace HRX := Lib.hid (HRX.out.below hbb)
  replace HRY := Lib.hid (HRY.out.below hbb)
  replace HRW := Lib.hid (HRW.out.below hbb)
  replace HRM := Lib.hid (HRM.out.below hbb)
  replace HB := Lib.hid (tr HB.out hbb)
  clear hb hbb
  go_wp2_with fail
  refine (degree_any _ _ _ _ _ HG.out HBG.out).mono ?_
  rintro e w22 ⟨rfl, hb⟩
  have hdl : decide (((sz rx : Nat) : Int) - 1 < ((sz (toN gs) : Nat) : Int) - 1) = true := by simp; omega
  have hbb := hb
  replace HX := Lib.hid (HX.out.below hbb)
  replace HY := Lib.hid (HY.out.below hbb)
  replace HG := Lib.hid (HG.out.below hbb)
  replace HRX := Lib.hid (HRX.out.below hbb)
  replace HRY := Lib.hid (HRY.out.below hbb)
  replace HRW := Lib.hid (HRW.out.below hbb)
  replace HRM := Lib.hid (HRM.out.below hbb)
  replace HB := Lib.hid (tr HB.out hbb)
  clear hb hbb
  go_wp2
  go_ret
  exact ⟨rfl, HB.out⟩

theorem walk_PolyLaws (a b l : Option Addr) (n c m d p e0 : Nat) (xs ys gs : List Int) (w : World) (hx : Ints .u8 w a n c xs) (hB : Byt xs) (hy : Ints .u8 w b m d ys) (hB2 : Byt ys) (hg : Ints .u8 w l p e0 gs) (hB3 : Byt gs) :
    Calls Try.prog 4 #[.slice a n c, .slice b m d, .slice l p e0] w fun e w' => e = .returned (.bool true) ∧ Below w.heap.size w w' := by
  by_cases hbig : 100 < n ∨ n ≤ 100 ∧ 100 < m ∨ n ≤ 100 ∧ m ≤ 100 ∧ 100 < p
  · exact walk_PolyLaws_big a b l n c m d p e0 w hbig
  · by_cases h0 : toN gs = 0
    · exact walk_PolyLaws_no a b l n c m d p e0 xs ys gs w hx hB hy hB2 hg hB3 (by omega) (by omega) (by omega) h0
    · exact walk_PolyLaws_yes a b l n c m d p e0 xs ys gs w hx hB hy hB2 hg hB3 (by omega) (by omega) (by omega) h0
end Go.Proofs.Ytadlmefdkpbflaa

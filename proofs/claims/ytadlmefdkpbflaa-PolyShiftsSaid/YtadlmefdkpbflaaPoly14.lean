/- The fixed results of layer 4. -/
import Derived.Test.YtadlmefdkpbflaaPoly13
namespace Go.Proofs.Ytadlmefdkpbflaa
open Go.RowKit

theorem cmul33 : cmul 3 3 = 5 := by
  rw [cmul_step, cmul_step (3 / 2), show 3 / 2 / 2 = 0 from rfl, cmul_zero]; decide
theorem isMod43 {r : Nat} (h : IsMod 4 3 r) : r = 1 := h.uniq ⟨by decide +kernel, 3, by rw [cmul33]; decide⟩
theorem t11 : toN [1, 1] = 3 := by decide
theorem t001 : toN [0, 0, 1] = 4 := by decide
theorem t0 : toN [0] = 0 := by decide
theorem p1000 : ofP [1, 0, 0, 0] = 2147483648 := by decide +kernel
theorem w31 : wordW 2147483648 32 = 1 := by decide +kernel
theorem s31 : sz 2147483648 = 32 := by decide +kernel
theorem o5 : ofN 5 = [1, 0, 1] := by decide +kernel
theorem s5 : sz 5 = 3 := by decide +kernel
theorem o1 : ofN 1 = [1] := by decide +kernel
theorem s1 : sz 1 = 1 := by decide +kernel
theorem sgen : sz (genAt 18) = 33 := by decide +kernel
theorem bt2 (a b : Int) (ha : 0 ≤ a ∧ a < 256) (hb : 0 ≤ b ∧ b < 256) : Byt [a, b] := fun z hz => by
  simp at hz; rcases hz with rfl | rfl <;> assumption
theorem bytd {zs : List Int} (h : ∀ z ∈ zs, 0 ≤ z ∧ z < 256) : Byt zs := h
theorem al {w w0 : World} (h : Below w0.heap.size w0 w) (o : Obj) : Below w0.heap.size w0 (w.alloc o) := h.alloc h.size o
theorem tr {w0 w w' : World} (h : Below w0.heap.size w0 w) (k : Below w.heap.size w w') : Below w0.heap.size w0 w' := h.trans (k.mono h.size)

set_option maxHeartbeats 8000000 in
theorem awake_any (w : World) : Calls Try.prog 8 #[] w fun e w' => e = .returned (.bool true) ∧ Below w.heap.size w w' := by
  have HX1 := Lib.hid (Ints.new .u8 w [1, 1] 5 2 rfl (by omega))
  have HB1 := Lib.hid (al (Below.refl _ w) (.cells #[.int .u8 1, .int .u8 1] 5))
  go_enter Try.func8, Try.ntmps8
  go_wp2_with fail
  obtain ⟨w1, hw1⟩ : ∃ w1, w.alloc (.cells #[.int .u8 1, .int .u8 1] 5) = w1 := ⟨_, rfl⟩
  have hsz1 : w1.heap.size = w.heap.size + 1 := by rw [← hw1]; simp
  have HX : Hid (Ints .u8 w1 (some ⟨w.heap.size, 0, none⟩) 2 2 [1, 1]) := by rw [← hw1]; exact HX1
  rw [hw1] at HB1 ⊢
  clear hw1 HX1
  refine (mod_yes _ _ _ _ _ _ [0, 0, 1] [1, 1] _ (Ints.at .u8 w1 _ [0, 0, 1] _ 3 (by omega) rfl (by omega)) (bytd (by decide)) (HX.out.below (al (Below.refl _ _) _)) (bytd (by decide)) (by omega) (by omega) (by decide)).mono ?_
  rintro e w2 ⟨g2, r, rfl, hm, hg2, hk2, hb2⟩
  rw [t11, t001] at hm
  obtain rfl := isMod43 hm
  rw [s1, o1] at *
  have HX2 := Lib.hid (HX.out.below ((al (Below.refl _ w1) (.cells #[.int .u8 0, .int .u8 0, .int .u8 1] 5)).trans (hb2.mono (by simp))))
  have HB2 := Lib.hid (tr HB1.out ((al (Below.refl _ w1) (.cells #[.int .u8 0, .int .u8 0, .int .u8 1] 5)).trans (hb2.mono (by simp))))
  have HR := Lib.hid (hk2.ints (n := 1) rfl (by omega))
  clear hm hk2 hb2 HB1 HX hg2
  go_wp2_with fail
  refine (mod_no _ _ _ _ _ _ [0] _ (Ints.at .u8 w2 _ [0] _ 1 rfl rfl (by omega)) (bytd (by decide)) t0).mono ?_
  rintro e w3 ⟨rfl, hb3⟩
  have hb3' := (al (Below.refl _ w2) (.cells #[.int .u8 0] 5)).trans (hb3.mono (by simp))
  have HX3 := Lib.hid (HX2.out.below hb3')
  have HR3 := Lib.hid (HR.out.below hb3')
  have HB3 := Lib.hid (tr HB2.out hb3')
  clear hb3 hb3' HB2 HX2 HR
  go_wp2_with fail
  refine (of_any _ _ _ [1, 0, 0, 0] _ (Ints.at .u8 w3 _ [1, 0, 0, 0] _ 4 rfl rfl (by omega)) (bytd (by decide)) (by omega)).mono ?_
  rintro e w4 ⟨g4, rfl, hg4, hk4, hb4⟩
  rw [p1000] at hk4 ⊢
  rw [s31]
  have hb4' := (al (Below.refl _ w3) (.cells #[.int .u8 1, .int .u8 0, .int .u8 0, .int .u8 0] 5)).trans (hb4.mono (by simp))
  have HX4 := Lib.hid (HX3.out.below hb4')
  have HR4 := Lib.hid (HR3.out.below hb4')
  have HB4 := Lib.hid (tr HB3.out hb4')
  have HP4 := Lib.hid (hk4.ints (n := 32) (by rw [ofN_length, s31]) (by omega))
  clear hk4 hb4 hb4' hg4 HB3 HX3 HR3
  go_wp2_with fail
  refine (word_yes _ _ _ (ofN 2147483648) _ HP4.out (ofN_byt _) (by omega) (by rw [toN_ofN, s31]; exact Nat.le_refl _)).mono ?_
  rintro e w5 ⟨rfl, hb5⟩
  rw [toN_ofN, w31]
  have HX5 := Lib.hid (HX4.out.below hb5)
  have HR5 := Lib.hid (HR4.out.below hb5)
  have HB5 := Lib.hid (tr HB4.out hb5)
  clear hb5 HB4 HX4 HR4 HP4
  go_wp2_with fail
  refine (mul_any _ _ _ _ _ _ [1, 1] [1, 1] _ HX5.out (bytd (by decide)) HX5.out (bytd (by decide)) (by omega) (by omega)).mono ?_
  rintro e w6 ⟨g6, rfl, hg6, hk6, hb6⟩
  rw [t11, cmul33, o5] at hk6
  rw [t11, cmul33, s5]
  have HR6 := Lib.hid (HR5.out.below hb6)
  have HB6 := Lib.hid (tr HB5.out hb6)
  have HM6 := Lib.hid (hk6.ints (n := 3) rfl (by omega))
  clear hk6 hb6 hg6 HB5 HX5 HR5
  go_wp2_with fail
  refine (lawsame_any _ _ _ _ _ _ [1, 0, 1] [1, 0, 1] _ (HM6.out.below (al (Below.refl _ w6) _)) (Ints.at .u8 w6 _ [1, 0, 1] _ 3 rfl rfl (by omega))).mono ?_
  rintro e w7 ⟨rfl, hb7⟩
  rw [eqL_true rfl]
  have hb7' := (al (Below.refl _ w6) (.cells #[.int .u8 1, .int .u8 0, .int .u8 1] 5)).trans (hb7.mono (by simp))
  have HR7 := Lib.hid (HR6.out.below hb7')
  have HB7 := Lib.hid (tr HB6.out hb7')
  clear hb7 hb7' HB6 HR6 HM6
  go_wp2_with fail
  refine (lawsame_any _ _ _ _ _ _ [1] [1] _ (HR7.out.below (al (Below.refl _ w7) _)) (Ints.at .u8 w7 _ [1] _ 1 rfl rfl (by omega))).mono ?_
  rintro e w8 ⟨rfl, hb8⟩
  rw [eqL_true rfl]
  have HB8 := Lib.hid (tr HB7.out ((al (Below.refl _ w7) (.cells #[.int .u8 1] 5)).trans (hb8.mono (by simp))))
  clear hb8 HB7 HR7
  go_wp2_with fail
  refine (degree_any none 0 0 [] _ (Ints.nil _ _) (bytd (by decide))).mono ?_
  rintro e w9 ⟨rfl, hb9⟩
  rw [show ((sz (toN []) : Nat) : Int) - 1 = -1 from rfl]
  have HB9 := Lib.hid (tr HB8.out hb9)
  clear hb9 HB8
  go_wp2_with fail
  refine (generator_any _).mono ?_
  rintro e w10 ⟨g10, rfl, hg10, hk10, hb10⟩
  rw [sgen]
  have HI10 := Lib.hid (hk10.ints (n := 33) (by rw [ofN_length, sgen]) (by omega))
  have HB10 := Lib.hid (tr HB9.out hb10)
  clear hb10 HB9 hk10 hg10
  go_wp2_with fail
  refine (degree_any _ _ _ _ _ HI10.out (ofN_byt _)).mono ?_
  rintro e w11 ⟨rfl, hb11⟩
  rw [toN_ofN, sgen, show ((33 : Nat) : Int) - 1 = 32 from rfl]
  have HB11 := Lib.hid (tr HB10.out hb11)
  clear hb11 HB10 HI10
  go_wp2_with fail
  refine (ones_yes 3 _ (by omega) (by omega)).mono ?_
  rintro e w12 ⟨g12, rfl, hg12, hk12, hb12⟩
  have HI12 := Lib.hid (hk12.ints (n := 3) rfl (by omega))
  have HB12 := Lib.hid (tr HB11.out hb12)
  clear hb12 hk12 hg12 HB11
  go_wp2_with fail
  refine (lawsame_any _ _ _ _ _ _ (List.replicate 3 1) [1, 1, 1] _ (HI12.out.below (al (Below.refl _ w12) _)) (Ints.at .u8 w12 _ [1, 1, 1] _ 3 rfl rfl (by omega))).mono ?_
  rintro e w13 ⟨rfl, hb13⟩
  rw [show eqL (List.replicate 3 1) [1, 1, 1] = true from eqL_true rfl]
  have HB13 := Lib.hid (tr HB12.out ((al (Below.refl _ w12) (.cells #[.int .u8 1, .int .u8 1, .int .u8 1] 5)).trans (hb13.mono (by simp))))
  clear hb13 HB12 HI12
  go_wp2
  go_ret
  exact ⟨rfl, HB13.out⟩
end Go.Proofs.Ytadlmefdkpbflaa

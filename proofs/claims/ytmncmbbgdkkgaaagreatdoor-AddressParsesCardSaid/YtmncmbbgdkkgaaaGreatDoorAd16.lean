/- The fixed results of layer 9. -/
import Derived.Test.YtmncmbbgdkkgaaaGreatDoorAd15
namespace Go.Proofs.YtmncmbbgdkkgaaaGreatDoor
set_option maxRecDepth 100000
set_option linter.unusedVariables false
open Go.RowKit

/-- a node in a block, with its bytes -/
def Nd (W : World) (b : Nat) (t : Int) (a : Option Addr) (n c : Nat) (xs : List Int) : Prop := NdB W b (.int .u16 t) (.slice a n c) (.slice none 0 0) ∧ Ints .u8 W a n c xs
theorem Nd.below {W W' : World} {b : Nat} {t : Int} {a : Option Addr} {n c : Nat} {xs : List Int} (h : Nd W b t a n c xs) (hb : Below W.heap.size W W') : Nd W' b t a n c xs := ⟨h.1.below hb h.1.lt, h.2.below hb⟩
theorem Nd.new {W : World} (t : Int) {a : Option Addr} {n c : Nat} {xs : List Int} (h : Ints .u8 W a n c xs) : Nd (W.alloc (.cells #[.int .u16 t, .slice a n c, .slice none 0 0] 26)) W.heap.size t a n c xs := ⟨NdB.new _ _ _ _, h.below ((Below.refl _ _).alloc (Nat.le_refl _) _)⟩
theorem Nd.cells {W : World} {b : Nat} {t : Int} {a : Option Addr} {n c : Nat} {xs : List Int} (h : Nd W b t a n c xs) : W.cell? ⟨b, 0, none⟩ = some (.int .u16 t) ∧ W.cell? ⟨b, 1, none⟩ = some (.slice a n c) ∧ W.cell? ⟨b, 2, none⟩ = some (.slice none 0 0) := h.1.cell
def tenS : ByteArray := ⟨#[49, 48, 46, 48, 46, 48, 46, 49]⟩
def abS : ByteArray := ⟨#[97, 46, 98]⟩
def tenL : List Int := [10, 0, 0, 1]
def abL : List Int := [97, 46, 98, 0]
theorem ten_byt : Byt tenL := fun z hz => by simp [tenL] at hz; omega
theorem ab_byt : Byt abL := fun z hz => by simp [abL] at hz; omega
theorem ten_nums : joinB ((numsZ 1 tenL).map dec) 46 = tenS := by decide +kernel
theorem ten_cont : decide (0 ≤ Lib.indexByte tenS.data.toList 58) = false := by decide +kernel
theorem ten_count : Lib.countB tenS ⟨#[46]⟩ = 3 := by decide +kernel
theorem ten_split : Lib.splitB ⟨#[46]⟩ 0 3 tenS = [⟨#[49, 48]⟩, ⟨#[48]⟩, ⟨#[48]⟩, ⟨#[49]⟩] := by decide +kernel
theorem ten_v : v10 ⟨#[49, 48]⟩ = 10 ∧ v10 ⟨#[48]⟩ = 0 ∧ v10 ⟨#[49]⟩ = 1 := by decide +kernel
theorem ten_put : putL 1 tenL = tenL := by decide +kernel
theorem ab_host : hostB abS = true := by decide +kernel
theorem ab_nums : numsB abS ++ [0] = abL := by decide +kernel
theorem ab_name : nameB 11 abL 0 = true ∧ nmS abL = abS := by decide +kernel
theorem parse_ten (w : World) (hg : Glob w) : Calls Tryz.prog 15 #[.string tenS] w fun e w' => ∃ a' c', e = .returned (.tuple #[ndV 5 a' 4 c' none 0 0, .bool true]) ∧ Ints .u8 w' a' 4 c' tenL ∧ Below w.heap.size w w' := by
  refine (parse10 tenS w (by decide) hg ten_cont [⟨#[49, 48]⟩, ⟨#[48]⟩, ⟨#[48]⟩, ⟨#[49]⟩] (by rw [ten_count, ten_split]) 4 (by rw [ten_count]) rfl (by omega) tenL rfl (fun j hj => ?_) tenL ten_put.symm 4 rfl tenS 5 rfl (fun W a c hG hi _ => ?_)).mono ?_
  · obtain rfl | rfl | rfl | rfl : j = 0 ∨ j = 1 ∨ j = 2 ∨ j = 3 := by omega
    · refine ⟨10, rfl, by omega, fun W hG => ?_⟩
      have h := pu10 ⟨#[49, 48]⟩ W (by decide) hG
      rw [ten_v.1] at h
      exact h
    · refine ⟨0, rfl, by omega, fun W hG => ?_⟩
      have h := pu10 ⟨#[48]⟩ W (by decide) hG
      rw [ten_v.2.1] at h
      exact h
    · refine ⟨0, rfl, by omega, fun W hG => ?_⟩
      have h := pu10 ⟨#[48]⟩ W (by decide) hG
      rw [ten_v.2.1] at h
      exact h
    · refine ⟨1, rfl, by omega, fun W hG => ?_⟩
      have h := pu10 ⟨#[49]⟩ W (by decide) hG
      rw [ten_v.2.2] at h
      exact h
  · have h := text4 5 a c none 0 0 tenL W hi ten_byt rfl hG.tab
    rw [ten_nums] at h
    exact h
  · rintro e w' ⟨(⟨_, _, a', c', rfl, hi⟩ | ⟨h, _⟩), hb⟩
    · exact ⟨a', c', rfl, hi, hb⟩
    · exact absurd ⟨.inl rfl, rfl⟩ h
set_option maxHeartbeats 8000000 in
theorem awake_any (w : World) (hg : Glob w) : Calls Tryz.prog 6 #[] w fun e w' => e = .returned (.bool true) ∧ Below w.heap.size w w' := by
  have HG := Lib.hid hg
  clear hg
  go_enter Tryz.func6, Tryz.ntmps6
  go_wp2_with fail
  have hb0 : Below w.heap.size w (w.alloc (.cells #[.int .u8 10, .int .u8 0, .int .u8 0, .int .u8 1] 5)) := (Below.refl _ _).alloc (Nat.le_refl _) _
  refine (of_yes (some ⟨w.heap.size, 0, none⟩) 4 4 tenL _ (Ints.at .u8 w _ tenL 5 4 rfl rfl (by omega)) (.inl rfl)).mono ?_
  rintro e w1 ⟨a1, c1, rfl, ho1, hb1⟩
  rw [if_pos rfl]
  unfold ndV
  have HA := Lib.hid (Nd.new (W := w1) 5 (ints_ofB ho1))
  have HB := Lib.hid ((hb0.trans (hb1.mono hb0.size)).alloc (Nat.le_trans hb0.size hb1.size) (.cells #[.int .u16 5, .slice a1 4 c1, .slice none 0 0] 26))
  clear hb0 hb1 ho1
  go_wp2_with fail
  rw [show ByteArray.mk #[49, 48, 46, 48, 46, 48, 46, 49] = tenS from rfl]
  refine (parse_ten _ (HG.out.below HB.out)).mono ?_
  rintro e w2 ⟨a3, c3, rfl, hi3, hb3⟩
  unfold ndV
  have hb3' := hb3.alloc hb3.size (.cells #[.int .u16 5, .slice a3 4 c3, .slice none 0 0] 26)
  have HA2 := Lib.hid (HA.out.below hb3')
  have HM2 := Lib.hid (Nd.new (W := w2) 5 hi3)
  have HB2 := Lib.hid (HB.out.trans (hb3'.mono HB.out.size))
  clear hb3 hb3' hi3 HA HB
  go_wp2_with fail
  rw [show ByteArray.mk #[97, 46, 98] = abS from rfl]
  refine (host_yes abS _ ab_host).mono ?_
  rintro e w3 ⟨a5, c5, rfl, hi5, hb5⟩
  rw [ab_nums, show abS.size + 1 = 4 from rfl] at hi5
  rw [show abS.size + 1 = 4 from rfl]
  unfold ndV
  have hb5' := hb5.alloc hb5.size (.cells #[.int .u16 11, .slice a5 4 c5, .slice none 0 0] 26)
  have HA3 := Lib.hid (HA2.out.below hb5')
  have HM3 := Lib.hid (HM2.out.below hb5')
  have HH3 := Lib.hid (Nd.new (W := w3) 11 hi5)
  have HB3 := Lib.hid (HB2.out.trans (hb5'.mono HB2.out.size))
  clear hb5 hb5' hi5 HA2 HM2 HB2
  go_wp2_with fail
  rw [show Value.agg #[.int .u16 11, .slice a5 4 c5, .slice none 0 0] = ndV 11 a5 4 c5 none 0 0 from rfl]
  refine (name_any 11 a5 4 c5 none 0 0 abL _ HH3.out.2 ab_byt).mono ?_
  rintro e w4 ⟨rfl, hb⟩
  rw [if_pos ab_name.1, ab_name.1, ab_name.2, show abS = (⟨#[97, 46, 98]⟩ : ByteArray) from rfl]
  have HA4 := Lib.hid (HA3.out.below hb)
  have HM4 := Lib.hid (HM3.out.below hb)
  have HH4 := Lib.hid (HH3.out.below hb)
  have HB4 := Lib.hid (HB3.out.trans (hb.mono HB3.out.size))
  clear hb HA3 HM3 HH3 HB3
  go_wp2_with fail
  refine (of_no none 0 0 _ (by omega) (by omega)).mono ?_
  rintro e w5 ⟨rfl, hb⟩
  unfold zeroNode ndV
  have hb' := hb.alloc hb.size (.cells #[.int .u16 0, .slice none 0 0, .slice none 0 0] 26)
  have HA5 := Lib.hid (HA4.out.below hb')
  have HM5 := Lib.hid (HM4.out.below hb')
  have HH5 := Lib.hid (HH4.out.below hb')
  have HB5 := Lib.hid (HB4.out.trans (hb'.mono HB4.out.size))
  clear hb hb' HA4 HM4 HH4 HB4
  have q := HA5.out.cells
  obtain ⟨p0, p1, p2⟩ := q
  go_wp2_with fail
  have hb0 := (Below.refl (w5.alloc (.cells #[.int .u16 0, .slice none 0 0, .slice none 0 0] 26)).heap.size _).alloc (Nat.le_refl _) (.cells #[.int .u16 5, .slice a1 4 c1, .slice none 0 0] 26)
  refine (types_one _ a1 none c1 0 tenL _ (HA5.out.2.below hb0) ten_byt (by have h := NdB.new (w5.alloc (.cells #[.int .u16 0, .slice none 0 0, .slice none 0 0] 26)) (.int .u16 5) (.slice a1 4 c1) (.slice none 0 0); simpa using h)).mono ?_
  rintro e w6 ⟨a11, c11, rfl, hi, hb⟩
  unfold ndV
  have hb1 := hb0.trans (hb.mono hb0.size)
  have hb' := hb1.alloc hb1.size (.cells #[.int .u16 12, .slice a11 2 c11, .slice none 0 0] 26)
  have HA6 := Lib.hid (HA5.out.below hb')
  have HM6 := Lib.hid (HM5.out.below hb')
  have HH6 := Lib.hid (HH5.out.below hb')
  have HT6 := Lib.hid (Nd.new (W := w6) 12 hi)
  have HB6 := Lib.hid (HB5.out.trans (hb'.mono HB5.out.size))
  clear hb hb' hb0 hb1 hi HA5 HM5 HH5 HB5 p0 p1 p2
  have q := HA6.out.cells
  obtain ⟨p0, p1, p2⟩ := q
  go_wp2_with fail
  have h7 := text4 5 a1 c1 none 0 0 tenL _ HA6.out.2 ten_byt rfl (HG.out.below HB6.out).tab
  rw [ten_nums, show tenS = (⟨#[49, 48, 46, 48, 46, 48, 46, 49]⟩ : ByteArray) from rfl] at h7
  refine h7.mono ?_
  rintro e w7 ⟨rfl, hb⟩
  have HA7 := Lib.hid (HA6.out.below hb)
  have HM7 := Lib.hid (HM6.out.below hb)
  have HH7 := Lib.hid (HH6.out.below hb)
  have HT7 := Lib.hid (HT6.out.below hb)
  have HB7 := Lib.hid (HB6.out.trans (hb.mono HB6.out.size))
  clear hb HA6 HM6 HH6 HT6 HB6 p0 p1 p2 h7
  have q := HA7.out.cells
  obtain ⟨p0, p1, p2⟩ := q
  have q := HM7.out.cells
  obtain ⟨q0, q1, q2⟩ := q
  go_wp2_with fail
  refine (same9_any 5 5 a1 a3 none none 4 c1 0 4 c3 0 tenL tenL _ HA7.out.2 HM7.out.2).mono ?_
  rintro e w8 ⟨rfl, hb⟩
  rw [eqL_true rfl]
  have HA8 := Lib.hid (HA7.out.below hb)
  have HH8 := Lib.hid (HH7.out.below hb)
  have HT8 := Lib.hid (HT7.out.below hb)
  have HB8 := Lib.hid (HB7.out.trans (hb.mono HB7.out.size))
  clear hb HA7 HM7 HH7 HT7 HB7 p0 p1 p2 q0 q1 q2
  have q := HH8.out.cells
  obtain ⟨q0, q1, q2⟩ := q
  have q := HT8.out.cells
  obtain ⟨r0, r1, r2⟩ := q
  go_wp2_with fail
  refine (same_any a11 _ 2 c11 2 2 [0, 5] [0, 5] _ (HT8.out.2.below ((Below.refl _ _).alloc (Nat.le_refl _) _)) (Ints.at .u8 w8 _ [0, 5] 5 2 rfl rfl (by omega))).mono ?_
  rintro e w9 ⟨rfl, hb⟩
  rw [eqL_true rfl]
  have hb' := ((Below.refl w8.heap.size w8).alloc (Nat.le_refl _) (.cells #[.int .u8 0, .int .u8 5] 5)).trans (hb.mono (by simp))
  have HA9 := Lib.hid (HA8.out.below hb')
  have HH9 := Lib.hid (HH8.out.below hb')
  have HB9 := Lib.hid (HB8.out.trans (hb'.mono HB8.out.size))
  clear hb hb' HA8 HH8 HT8 HB8 q0 q1 q2 r0 r1 r2
  have q := HA9.out.cells
  obtain ⟨p0, p1, p2⟩ := q
  have q := HH9.out.cells
  obtain ⟨q0, q1, q2⟩ := q
  go_wp2_with fail
  have hb0 := (Below.refl w9.heap.size w9).alloc (Nat.le_refl _) (.cells #[.int .u16 5, .slice a1 4 c1, .slice none 0 0, .int .u16 11, .slice a5 4 c5, .slice none 0 0] 26)
  refine (all_two _ 5 11 a1 a5 none none 4 4 c1 c5 0 0 tenL abL _ (HA9.out.2.below hb0) (HH9.out.2.below hb0) ten_byt ab_byt rfl rfl (World.alloc_heap_new _ _)).mono ?_
  rintro e w10 ⟨a, c, rfl, hb⟩
  have HB10 := Lib.hid (HB9.out.trans ((hb0.trans (hb.mono hb0.size)).mono HB9.out.size))
  clear hb hb0 p0 p1 p2 q0 q1 q2
  go_wp2
  go_ret
  exact ⟨rfl, HB10.out⟩
end Go.Proofs.YtmncmbbgdkkgaaaGreatDoor

/- address.Text of sixteen bytes. Printed by wip/tools/gen_text16.py out of gen_text.py. -/
import Derived.Test.YtmncmbbgdkkgaaaGreatDoorAd25
namespace Go.Proofs.YtmncmbbgdkkgaaaGreatDoor
set_option maxRecDepth 100000
set_option linter.unusedVariables false
open Go.RowKit

/-- a number in hexadecimal -/
def hexB (x : Int) : ByteArray := ⟨(hexDigits x.toNat).toArray⟩
theorem hxF_len : ∀ (f q : Nat) (L : List UInt8), (hxF f q L).length ≤ f + 1 + L.length
  | 0, q, L => by simp [hxF]; omega
  | f + 1, q, L => by
    rw [hxF]
    split
    · simp; omega
    · have := hxF_len f (q / 16) (hexd (q % 16) :: L)
      simp at this
      omega
theorem hexB_len (x : Int) (h0 : 0 ≤ x) (h1 : x ≤ 65535) : (hexB x).data.toList.length ≤ 20 := by
  have := hxF_len 3 x.toNat []
  show (hexDigits x.toNat).length ≤ 20
  unfold hexDigits
  simp at this
  omega
theorem nums_range16 (xs : List Int) (hl : xs.length = 16) (bx : Byt xs) : ∀ x ∈ numsZ 2 xs, 0 ≤ x ∧ x ≤ 65535 := by
  intro x hx
  unfold numsZ at hx
  rw [if_pos ⟨rfl, by rw [hl]; rfl⟩] at hx
  simp only [numsL, List.mem_map] at hx
  obtain ⟨j, hj, rfl⟩ := hx
  have := num_bd _ ((xs.drop (j * Int.toNat 2)).take (Int.toNat 2)) rfl (fun z hz => bx z (List.mem_of_mem_drop (List.mem_of_mem_take hz)))
  have hle : ((xs.drop (j * Int.toNat 2)).take (Int.toNat 2)).length ≤ 2 := by rw [List.length_take]; exact Nat.min_le_left _ _
  unfold numAt
  generalize ((xs.drop (j * Int.toNat 2)).take (Int.toNat 2)).length = q at this hle
  generalize num ((xs.drop (j * Int.toNat 2)).take (Int.toNat 2)) = y at this ⊢
  obtain rfl | rfl | rfl : q = 0 ∨ q = 1 ∨ q = 2 := by omega
  · simp at this; omega
  · simp at this; omega
  · simp at this; omega

set_option maxHeartbeats 8000000 in
theorem text16 (t : Int) (a : Option Addr) (c : Nat) (k : Option Addr) (m d : Nat) (xs : List Int) (w : World) (hx : Ints .u8 w a 16 c xs) (bx : Byt xs) (hb : isB t 16 m = true) (htab : Tz w) :
    Calls Tryz.prog 17 #[ndV t a 16 c k m d] w fun e w' => e = .returned (.string (joinB ((numsZ 2 xs).map hexB) 58)) ∧ Below w.heap.size w w' := by
  obtain ⟨i0, hi, hz0, hz1, hz2⟩ := info_parts info_str
  have hl := hx.len
  have hnl : (numsZ 2 xs).length = 8 := by
    unfold numsZ
    rw [if_pos ⟨rfl, by rw [hl]; rfl⟩, numsL_length, hl]
    rfl
  have hnr : ∀ x ∈ numsZ 2 xs, 0 ≤ x ∧ x ≤ 65535 := nums_range16 xs hl bx
  have hjl := join_len (numsZ 2 xs) hexB 58 (fun x hx => hexB_len x (hnr x hx).1 (hnr x hx).2)
  rw [hnl] at hjl
  obtain ⟨zs, hzs⟩ : ∃ zs, zs = numsZ 2 xs := ⟨_, rfl⟩
  rw [← hzs] at hnl hnr hjl ⊢
  have HZS := Lib.hid hzs
  obtain ⟨TX, hTX⟩ : ∃ TX, TX = joinB (zs.map hexB) 58 := ⟨_, rfl⟩
  rw [← hTX]
  have HTX := Lib.hid hTX
  clear hTX
  have HX := Lib.hid hx
  have HTB := Lib.hid htab
  have HNR := Lib.hid hnr
  have HNL := Lib.hid hnl
  have HJL := Lib.hid hjl
  have HB0 := Lib.hid ((Below.refl _ w).alloc (Nat.le_refl _) (.cells #[.int .u16 t, .slice a 16 c, .slice k m d] 26))
  clear hx htab hnr hnl hl hjl hzs
  rw [show ndV t a 16 c k m d = .agg #[.int .u16 t, .slice a 16 c, .slice k m d] from rfl]
  go_enter Tryz.func17, Tryz.ntmps17
  go_wp2_with fail
  rw [show (Value.agg #[.int .u16 t, .slice a 16 c, .slice k m d]) = ndV t a 16 c k m d from rfl]
  refine (bytes_yes t a 16 c k m d xs _ (HX.out.below HB0.out) bx hb).mono ?_
  rintro e w1 ⟨a1, c1, rfl, hx1, hb1⟩
  have HX1 := Lib.hid hx1
  have HB1 := Lib.hid (HB0.out.trans (hb1.mono HB0.out.size))
  clear hx1 hb1
  go_wp2_with fail
  refine (numbers_any 2 a1 16 c1 xs _ HX1.out bx (by omega)).mono ?_
  rintro e w2 ⟨a2, c2, rfl, hx2, hb2⟩
  have HB2 := Lib.hid (HB1.out.trans (hb2.mono HB1.out.size))
  rw [← HZS.out, HNL.out] at hx2 ⊢
  obtain ⟨b2, o2, rfl, hlt2, _, hc2⟩ := hx2.cells.resolve_left (fun h => by have := h.1; omega)
  have HC2 := Lib.hid hc2
  clear hx2 hb2 hc2 HX1
  go_wp2
  go_loopw [8, 27] (fun v i wr => ∃ j : Nat, j ≤ 8 ∧ i = .int .i64 j ∧ ∃ a' c', v = .slice a' j c' ∧ wr.ownsRow w2.heap.size 9 1 v j (((zs.map hexB).take j).map Value.string) ∧ Below w2.heap.size w2 wr) (fun _ i _ => 8 - (intOf i).toNat)
  case atStart => exact ⟨0, by omega, rfl, none, 0, rfl, by simpa using World.ownsRow_nil _ _ _ _, Below.refl _ _⟩
  case round =>
    obtain ⟨j, hj, rfl, a', c', rfl, hown, hbw2⟩ := hrel
    have HO := Lib.hid hown
    have HW := Lib.hid (HB2.out.trans (hbw2.mono HB2.out.size))
    have HW2 := Lib.hid hbw2
    have hszr : w2.heap.size ≤ wr.heap.size := hbw2.size
    have hsz0 : w.heap.size ≤ wr.heap.size := HW.out.size
    clear hown
    by_cases hlt : j < 8
    · have hcj := (hbw2.cell (p := ⟨b2, o2 + j, none⟩) hlt2).trans (HC2.out j hlt)
      have hjz : j < zs.length := by rw [HNL.out]; exact hlt
      have hrg := HNR.out _ (nth_mem hjz)
      obtain ⟨u, hu⟩ : ∃ u : Nat, nth zs j = u := ⟨(nth zs j).toNat, by omega⟩
      have hst := Lib.hid (show (zs.map hexB).take (j + 1) = (zs.map hexB).take j ++ [hexB (u : Int)] by
        rw [List.take_add_one, List.getElem?_map, nth_get? hjz, hu]; rfl)
      rw [hu] at hcj hrg
      have hwu : IntKind.u64.wrap (u : Int) = (u : Int) := by rw [IntKind.wrap_u64]; omega
      clear hbw2 hu hjz
      go_wp2_with fail
      refine (fmtU16 u _ (by omega) (HTB.out.below HW.out)).mono ?_
      rintro e w3 ⟨rfl, hb3⟩
      rw [show (⟨(hexDigits u).toArray⟩ : ByteArray) = hexB (u : Int) from rfl]
      have HO3 := Lib.hid (own_below HO.out hb3)
      have HW23 := Lib.hid (HW2.out.trans (hb3.mono HW2.out.size))
      have hs23 : w2.heap.size ≤ w3.heap.size := HW23.out.size
      clear hb3 hcj HO HW HW2 hszr hsz0
      obtain ⟨S, hS⟩ : ∃ S, S = hexB (u : Int) := ⟨_, rfl⟩
      rw [← hS] at hst ⊢
      clear hS
      go_wp2_with (at_builtin; refine append_own_any _ rfl _ _ 58 rfl w2.heap.size 9 i0 (.string ⟨#[]⟩) 16 Tryz.underlying58 hi hz0 hz1 hz2 rfl (.slice a' j c') _ _ rfl (HO3.out.alloc _) _ _ _ [.string S] rfl (Sl.at _ _ [.string S] 9 1 rfl rfl (by omega)) (by simp [Value.oneCell']) (by unfold maxLen; omega) (by omega) (by simp; omega) ?_; intro v' w4 hown1 hgrow)
      have hown' := hown1.out
      rw [show ((zs.map hexB).take j).map Value.string ++ [.string S] = ((zs.map hexB).take (j + 1)).map Value.string by rw [hst.out]; simp] at hown'
      obtain ⟨a3, c3, hv3, _⟩ := Sl.own hown'
      subst hv3
      have HO4 := Lib.hid hown'
      have HW24 := Lib.hid ((HW23.out.alloc hs23 (.cells #[.string S] 9)).grown hgrow.out (by simp; omega) (fun k' hk' => (HO3.out.lt k' hk').1))
      clear hown' hown1 hgrow hst HO3 HW23
      go_wp2
      go_roundw
      case rel => exact ⟨j + 1, by omega, by go_num, a3, c3, rfl, HO4.out, HW24.out⟩
      case measure => simp [intOf]; omega
    · obtain rfl : j = 8 := by omega
      have hT : (zs.map hexB).take 8 = zs.map hexB := List.take_of_length_le (by rw [List.length_map, HNL.out]; exact Nat.le_refl _)
      rw [hT] at HO
      obtain ⟨a3, c3, hv3, hsl⟩ := Sl.own HO.out
      simp only [Value.slice.injEq, true_and] at hv3
      obtain ⟨rfl, rfl⟩ := hv3
      obtain ⟨b3, o3, rfl, hlt3, hc3⟩ := hsl.2.2.2.2 (by omega)
      have hJ := Tryz.strings_Join b3 o3 c' (zs.map hexB) ⟨#[58]⟩ wr (fun j x hx => hc3 j _ (by rw [List.getElem?_map, hx]; rfl)) hlt3 (by rw [List.length_map, HNL.out]; omega) (by rw [List.length_map, HNL.out]; exact hsl.2.1) (Nat.le_trans HJL.out (by omega))
      rw [List.length_map, HNL.out] at hJ
      have hJ2 : Calls Tryz.prog 36 #[.slice (some ⟨b3, o3, none⟩) 8 c', .string ⟨#[58]⟩] wr fun e w' => e = .returned (.string TX) ∧ Below wr.heap.size wr w' := by
        rw [HTX.out]
        exact hJ
      have HJ := Lib.hid hJ2
      clear hbw2 hT HO HW2 hsl hc3 hJ hJ2
      go_wp2_with fail
      refine HJ.out.mono ?_
      rintro e w3 ⟨rfl, hb3⟩
      have HB3 := Lib.hid (HW.out.trans (hb3.mono hsz0))
      clear hb3
      go_wp2
      go_ret
      exact ⟨rfl, HB3.out⟩
end Go.Proofs.YtmncmbbgdkkgaaaGreatDoor

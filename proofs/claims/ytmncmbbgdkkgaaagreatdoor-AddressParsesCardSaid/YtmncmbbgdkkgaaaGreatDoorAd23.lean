/- strconv.ParseUint at base 16 and 16 bits. Printed by wip/tools/gen_pu16.py. -/
import Derived.Test.YtmncmbbgdkkgaaaGreatDoorAd22
import Derived.Laws.Closers25
import Derived.Laws.Closers25b
namespace Go.Proofs.YtmncmbbgdkkgaaaGreatDoor
set_option maxRecDepth 100000
set_option linter.unusedVariables false
set_option linter.unusedSimpArgs false
open Go.RowKit

/-- the byte as the text lowers it -/
def lowI (c : UInt8) : Int := bits .or .u8 (c.toNat : Int) 32
/-- a hexadecimal digit's value; no less than 16 where it is none -/
def hxd (c : UInt8) : Nat := if 48 ≤ c.toNat ∧ c.toNat ≤ 57 then c.toNat - 48 else if 97 ≤ lowI c ∧ lowI c ≤ 122 then (lowI c).toNat - 87 else 99
inductive Pr where
  | ok (n : Nat)
  | «syntax»
  | range
def pl16 : Nat → List UInt8 → Pr
  | acc, [] => .ok acc
  | acc, c :: cs => if 16 ≤ hxd c then .syntax else if 65535 < acc * 16 + hxd c then .range else pl16 (acc * 16 + hxd c) cs
def Pr.tup : Pr → Value
  | .ok n => .tuple #[.int .u64 (n : Nat), .nilIface]
  | .syntax => .tuple #[.int .u64 0, .iface 96 (.int .i64 2)]
  | .range => .tuple #[.int .u64 65535, .iface 96 (.int .i64 1)]
set_option maxHeartbeats 32000000 in
theorem ipu16 (t : ByteArray) (hne : t.size ≠ 0) (hmax : t.size ≤ 9223372036854775806) (w : World) :
    Calls Tryz.prog 45 #[.string t, .int .i64 16, .int .i64 16] w fun e w' => e = .returned (pl16 0 t.data.toList).tup ∧ w' = Lib.bytesWorld w 5 t := by
  have hemp : t.toList.isEmpty = false := by
    rw [← decide_eq_emptyBytes]
    exact decide_eq_false (fun h => hne (by rw [h]; rfl))
  have hcv := Lib.run_convert_string_bytes (P := Tryz.prog) w 9 23 5 t (u := .string) Tryz.underlying9 Tryz.underlying23 Tryz.underlying5
  have hB : ∀ j, j < t.size → (Lib.bytesWorld w 5 t).cell? ⟨w.heap.size, j, none⟩ = some (.int .u8 (t.data.toList.getD j 0).toNat) := fun j hj => Lib.bytesWorld_cell w 5 t j hj
  obtain ⟨W1, hW1⟩ : ∃ W1, W1 = Lib.bytesWorld w 5 t := ⟨_, rfl⟩
  rw [← hW1] at hcv hB ⊢
  clear hW1
  obtain ⟨bs, hL⟩ : ∃ bs, bs = t.data.toList := ⟨_, rfl⟩
  have hLn : bs.length = t.size := by rw [hL, Lib.size_eq]
  rw [← hL] at hB ⊢
  clear hL
  go_enter Tryz.func45, Tryz.ntmps45
  go_wp2
  go_loop [12, 13, 101] (fun vu vn vi => ∃ (k acc : Nat) (a : Int), vu = .bool false ∧ vn = .int .u64 a ∧ vi = .int .i64 k ∧ k ≤ t.size ∧ Hid (a = (acc : Int) ∧ acc ≤ 65535 ∧ pl16 0 bs = pl16 acc (bs.drop k))) (fun _ _ vi => t.size - (intOf vi).toNat)
  case atStart => exact ⟨0, 0, 0, rfl, rfl, rfl, by omega, rfl, by omega, rfl⟩
  case round =>
    obtain ⟨k, acc, a, rfl, rfl, rfl, hk, hh⟩ := hrel
    obtain ⟨ha, hacc, hdec⟩ := hh.out
    clear hh
    have a0 : 0 ≤ a := by omega
    have a1 : a ≤ 65535 := by omega
    by_cases hkn : k < t.size
    · have hc := hB k hkn
      have hdrop : bs.drop k = bs[k]'(by omega) :: bs.drop (k + 1) := List.drop_eq_getElem_cons (by omega)
      have hget : bs.getD k 0 = bs[k]'(by omega) := by simp [List.getD, List.getElem?_eq_getElem (show k < bs.length by omega)]
      rw [hdrop] at hdec
      rw [hget] at hc
      generalize bs[k]'(by omega) = c at hc hdec
      have hc256 : c.toNat < 256 := c.toNat_lt
      obtain ⟨dd, hdd⟩ : ∃ dd, hxd c = dd := ⟨_, rfl⟩
      have hv0 := bits_lo_u8 .or (c.toNat : Int) 32
      have hv1 := bits_hi_u8 .or (c.toNat : Int) 32
      clear hB hdrop hget
      by_cases hdig : 48 ≤ c.toNat ∧ c.toNat ≤ 57
      · obtain ⟨hd0, hd1⟩ := hdig
        have hdv : dd = c.toNat - 48 := by rw [← hdd, hxd, if_pos ⟨hd0, hd1⟩]
        by_cases hov : 65535 < acc * 16 + dd
        · have hF : pl16 acc (c :: bs.drop (k + 1)) = .range := by rw [pl16, if_neg (by omega), if_pos (by rw [hdd]; exact hov)]
          rw [hF] at hdec
          have iov : 65535 < a * 16 + ((c.toNat : Int) - 48) := by omega
          clear hacc hF hov ha
          go_wp2
          go_ret2
          first | exact ⟨rfl, rfl⟩ | exact ⟨by rw [hdec]; rfl, rfl⟩
        · have hF : pl16 acc (c :: bs.drop (k + 1)) = pl16 (acc * 16 + dd) (bs.drop (k + 1)) := by rw [pl16, if_neg (by omega), if_neg (by rw [hdd]; exact hov), hdd]
          have HN : Hid (a * 16 + ((c.toNat : Int) - 48) = ((acc * 16 + dd : Nat) : Int) ∧ acc * 16 + dd ≤ 65535 ∧ pl16 0 bs = pl16 (acc * 16 + dd) (bs.drop (k + 1))) := Lib.hid ⟨by omega, by omega, by rw [hdec, hF]⟩
          have iov : a * 16 + ((c.toNat : Int) - 48) ≤ 65535 := by omega
          clear hacc hF hov hdec ha
          go_wp2
          refine ⟨⟨k + 1, acc * 16 + dd, a * 16 + ((c.toNat : Int) - 48), rfl, (by first | rfl | (congr 1; omega)), (by first | rfl | (congr 1; omega)), by omega, HN⟩, by simp [intOf]; omega⟩

      · obtain ⟨l, hl⟩ : ∃ l, lowI c = l := ⟨_, rfl⟩
        have hl' : bits .or .u8 (c.toNat : Int) 32 = l := hl
        rw [hl'] at hv0 hv1
        have hlow : Hid (∀ w, Calls Tryz.prog 62 #[.int .u8 (c.toNat : Int)] w fun e w' => e = .returned (.int .u8 l) ∧ w' = w) := Lib.hid (fun w => by rw [← hl']; exact Tryz.internal_strconv_lower _ w)
        by_cases hus : c.toNat = 95
        · have h95 : (c.toNat : Int) = 95 := by omega
          have hl127 : l = 127 := by rw [← hl', h95]; kernel_rfl
          have hF : pl16 acc (c :: bs.drop (k + 1)) = .syntax := by rw [pl16, if_pos (by rw [hxd, if_neg hdig, hl, if_neg (by omega)]; omega)]
          rw [hF] at hdec
          rw [h95] at hc
          have hlow95 : Hid (∀ w, Calls Tryz.prog 62 #[.int .u8 95] w fun e w' => e = .returned (.int .u8 127) ∧ w' = w) := Lib.hid (fun w => by have h := hlow.out w; rw [h95, hl127] at h; exact h)
          clear hacc hF ha hl hl' hdig hdd hlow hus h95 hl127 hv0 hv1
          go_wp2_with (go_at_call 62; refine (hlow95.out _).mono ?_; rintro e w' ⟨rfl, rfl⟩)
          go_ret2
          first | exact ⟨rfl, rfl⟩ | exact ⟨by rw [hdec]; rfl, rfl⟩
        have hn95 : ((c.toNat : Int) == 95) = false := by rw [beq_eq_false_iff_ne]; omega
        clear hus
        have hno : (c.toNat : Int) < 48 ∨ 57 < (c.toNat : Int) := by omega
        by_cases hlet : 97 ≤ l ∧ l ≤ 122
        · have hdv : (dd : Int) = l - 87 := by rw [← hdd, hxd, if_neg hdig, hl, if_pos hlet]; omega
          obtain ⟨hl0, hl1⟩ := hlet
          clear hl hl' hdig
          by_cases h16 : 16 ≤ dd
          · have hF : pl16 acc (c :: bs.drop (k + 1)) = .syntax := by rw [pl16, if_pos (by omega)]
            rw [hF] at hdec
            have i16 : 16 ≤ l - 97 + 10 := by omega
            clear hacc hF ha
            rcases hno with hno | hno
            all_goals
              go_wp2_with (go_at_call 62; refine (hlow.out _).mono ?_; rintro e w' ⟨rfl, rfl⟩)
              go_ret2
              first | exact ⟨rfl, rfl⟩ | exact ⟨by rw [hdec]; rfl, rfl⟩
          · have i16 : l - 97 + 10 < 16 := by omega
            rcases hno with hno | hno
            all_goals
              by_cases hov : 65535 < acc * 16 + dd
              · have hF : pl16 acc (c :: bs.drop (k + 1)) = .range := by rw [pl16, if_neg (by omega), if_pos (by rw [hdd]; exact hov)]
                rw [hF] at hdec
                have iov : 65535 < a * 16 + (l - 97 + 10) := by omega
                clear hacc hF hov ha
                go_wp2_with (go_at_call 62; refine (hlow.out _).mono ?_; rintro e w' ⟨rfl, rfl⟩)
                go_ret2
                first | exact ⟨rfl, rfl⟩ | exact ⟨by rw [hdec]; rfl, rfl⟩
              · have hF : pl16 acc (c :: bs.drop (k + 1)) = pl16 (acc * 16 + dd) (bs.drop (k + 1)) := by rw [pl16, if_neg (by omega), if_neg (by rw [hdd]; exact hov), hdd]
                have HN : Hid (a * 16 + (l - 97 + 10) = ((acc * 16 + dd : Nat) : Int) ∧ acc * 16 + dd ≤ 65535 ∧ pl16 0 bs = pl16 (acc * 16 + dd) (bs.drop (k + 1))) := Lib.hid ⟨by omega, by omega, by rw [hdec, hF]⟩
                have iov : a * 16 + (l - 97 + 10) ≤ 65535 := by omega
                clear hacc hF hov hdec ha
                go_wp2_with (go_at_call 62; refine (hlow.out _).mono ?_; rintro e w' ⟨rfl, rfl⟩)
                refine ⟨⟨k + 1, acc * 16 + dd, a * 16 + (l - 97 + 10), rfl, (by first | rfl | (congr 1; omega)), (by first | rfl | (congr 1; omega)), by omega, HN⟩, by simp [intOf]; omega⟩

        · have hdv : 16 ≤ hxd c := by rw [hxd, if_neg hdig, hl, if_neg hlet]; omega
          have hF : pl16 acc (c :: bs.drop (k + 1)) = .syntax := by rw [pl16, if_pos hdv]
          rw [hF] at hdec
          have hlet' : l < 97 ∨ 122 < l := by omega
          clear hacc hF ha hl hl' hdig hlet hdv hdd
          rcases hno with hno | hno <;> rcases hlet' with hll | hll
          all_goals
            go_wp2_with (go_at_call 62; refine (hlow.out _).mono ?_; rintro e w' ⟨rfl, rfl⟩)
            go_ret2
            first | exact ⟨rfl, rfl⟩ | exact ⟨by rw [hdec]; rfl, rfl⟩
    · have hkk : k = t.size := by omega
      subst hkk
      have hF : pl16 acc (bs.drop t.size) = .ok acc := by rw [List.drop_eq_nil_of_le (by omega)]; rfl
      rw [hF] at hdec
      subst ha
      clear hacc hF a0 a1
      go_wp2
      go_ret2
      first | exact ⟨rfl, rfl⟩ | exact ⟨by rw [hdec]; rfl, rfl⟩
end Go.Proofs.YtmncmbbgdkkgaaaGreatDoor

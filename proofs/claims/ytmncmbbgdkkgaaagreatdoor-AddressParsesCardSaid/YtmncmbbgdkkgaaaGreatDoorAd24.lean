/- strconv.ParseUint at base 16 and 16 bits: the public one; strconv.FormatUint at base 16. -/
import Derived.Test.YtmncmbbgdkkgaaaGreatDoorAd23
namespace Go.Proofs.YtmncmbbgdkkgaaaGreatDoor
set_option maxRecDepth 100000
set_option linter.unusedVariables false
set_option linter.unusedSimpArgs false
open Go.RowKit

/-- what a hexadecimal word reads as: ParseUint's number, whatever its error -/
def v16 (s : ByteArray) : Nat := match pl16 0 s.data.toList with
  | .ok n => n
  | .syntax => 0
  | .range => 65535
theorem pl16_le : ∀ (cs : List UInt8) (acc n : Nat), acc ≤ 65535 → pl16 acc cs = .ok n → n ≤ 65535
  | [], acc, n, ha, h => by
    unfold pl16 at h
    cases h
    exact ha
  | c :: cs, acc, n, ha, h => by
    unfold pl16 at h
    split at h
    · cases h
    · split at h
      · cases h
      · exact pl16_le cs _ n (by omega) h
theorem v16_le (s : ByteArray) : v16 s ≤ 65535 := by
  unfold v16
  cases h : pl16 0 s.data.toList with
  | ok n => exact pl16_le _ 0 n (by omega) h
  | «syntax» => exact Nat.zero_le _
  | range => exact Nat.le_refl _
set_option maxHeartbeats 4000000 in
theorem pu16 (s : ByteArray) (w : World) (hs : s.size ≤ 100000) (hg : Glob w) :
    Calls Tryz.prog 29 #[.string s, .int .i64 16, .int .i64 16] w fun e w' => ∃ ev, e = .returned (.tuple #[.int .u64 (v16 s), ev]) ∧ Below w.heap.size w w' := by
  obtain ⟨sy, hy1, hy2⟩ := hg.syn
  obtain ⟨ra, hr1, hr2⟩ := hg.ran
  by_cases h0 : s.size = 0
  · obtain rfl : s = ⟨#[]⟩ := ByteArray.ext (Array.size_eq_zero_iff.1 h0)
    have hv : v16 ⟨#[]⟩ = 0 := rfl
    rw [hv]
    go_enter Tryz.func29, Tryz.ntmps29
    go_wp2_with fail
    refine (Tryz.internal_strconv_ParseUint_empty 16 16 _).mono ?_
    rintro e w1 ⟨rfl, rfl⟩
    go_wp2_with fail
    refine (Tryz.strconv_toError_syntax _ _ 16 16 sy _ (by decide) hy1 hy2).mono ?_
    rintro e w2 ⟨N, rfl, _, _, hb⟩
    have HB := Lib.hid hb
    clear hb
    go_wp2
    go_ret2
    exact ⟨_, rfl, HB.out⟩
  · have hbw : Below w.heap.size w (Lib.bytesWorld w 5 s) := ⟨rfl, rfl, rfl, by rw [Lib.bytesWorld_size]; omega, fun k hk => Lib.bytesWorld_at_old w _ s k hk⟩
    have HBW := Lib.hid hbw
    have gy := cell_below hbw hy1
    have gr := cell_below hbw hr1
    clear hbw hy1 hr1
    unfold v16
    cases h : pl16 0 s.data.toList with
    | ok n =>
      go_enter Tryz.func29, Tryz.ntmps29
      go_wp2_with fail
      refine (ipu16 s h0 (by omega) _).mono ?_
      rintro e w1 ⟨rfl, rfl⟩
      rw [h]
      unfold Pr.tup
      go_wp2
      go_ret2
      exact ⟨_, rfl, HBW.out⟩
    | «syntax» =>
      go_enter Tryz.func29, Tryz.ntmps29
      go_wp2_with fail
      refine (ipu16 s h0 (by omega) _).mono ?_
      rintro e w1 ⟨rfl, rfl⟩
      rw [h]
      unfold Pr.tup
      go_wp2_with fail
      refine (Tryz.strconv_toError_syntax _ _ 16 16 sy _ (by omega) gy hy2).mono ?_
      rintro e w2 ⟨N, rfl, _, _, hb⟩
      have HB := Lib.hid (HBW.out.trans (hb.mono HBW.out.size))
      clear hb
      go_wp2
      go_ret2
      exact ⟨_, rfl, HB.out⟩
    | range =>
      go_enter Tryz.func29, Tryz.ntmps29
      go_wp2_with fail
      refine (ipu16 s h0 (by omega) _).mono ?_
      rintro e w1 ⟨rfl, rfl⟩
      rw [h]
      unfold Pr.tup
      go_wp2_with fail
      refine (Tryz.strconv_toError_range _ _ 16 16 ra _ (by omega) gr hr2).mono ?_
      rintro e w2 ⟨N, rfl, _, _, hb⟩
      have HB := Lib.hid (HBW.out.trans (hb.mono HBW.out.size))
      clear hb
      go_wp2
      go_ret2
      exact ⟨_, rfl, HB.out⟩
end Go.Proofs.YtmncmbbgdkkgaaaGreatDoor

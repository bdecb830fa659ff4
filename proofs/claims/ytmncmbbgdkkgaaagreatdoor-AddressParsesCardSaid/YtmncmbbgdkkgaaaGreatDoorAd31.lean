/- The walk of AddressParses. -/
import Derived.Test.YtmncmbbgdkkgaaaGreatDoorAd30
namespace Go.Proofs.YtmncmbbgdkkgaaaGreatDoor
set_option maxRecDepth 100000
set_option linter.unusedVariables false
open Go.RowKit

theorem putL_byt1 {l : List Int} (h : Byt l) : putL 1 l = l := by
  rw [putL_one]
  conv => rhs; rw [← List.map_id l]
  refine List.map_congr_left fun z hz => ?_
  have := h z hz
  show z % 256 = z
  omega
/-- the reference's Parse, as address.Parse's contract says it -/
theorem ref_any (s : ByteArray) (w : World) (hs : s.size ≤ 300) :
    Calls Tryz.prog 16 #[.string s] w fun e w' => ((okP s ∧ ∃ a' c', e = .returned (.tuple #[ndV (if (pz s).length = 4 then 5 else 6) a' (pz s).length c' none 0 0, .bool true]) ∧ Ints .u8 w' a' (pz s).length c' (pz s)) ∨ (¬ okP s ∧ e = .returned (.tuple #[zeroNode, .bool false]))) ∧ Below w.heap.size w w' := by
  by_cases h58 : (58 : UInt8) ∈ s.data.toList
  · refine (refparse s w hs 16 16 rfl 58 (by simp [baseZ, h58]) (by simp [signZ, h58]) 2 16 6 (.inr ⟨rfl, rfl, rfl, rfl, rfl⟩)).mono ?_
    rintro e w' ⟨h, hb⟩
    refine ⟨?_, hb⟩
    rcases h with ⟨l, hl, hr, h16, a', c', rfl, hi⟩ | ⟨hno, rfl⟩
    · have h8 : l.length = 8 := by rw [putL_length (by omega)] at h16; omega
      obtain ⟨hpz, ht, _⟩ := law16_to h58 hl h8
      left
      unfold okP
      rw [hpz, h16]
      exact ⟨⟨.inr rfl, ht⟩, a', c', rfl, hi⟩
    · right
      refine ⟨fun hok => ?_, rfl⟩
      obtain ⟨l, hl, h8⟩ := law16_from h58 hok.1 hok.2
      rcases hno with hn | ⟨l', hl', hne⟩
      · rw [hn] at hl; cases hl
      · rw [hl'] at hl
        cases hl
        exact hne (by rw [putL_length (by omega), h8])
  · refine (refparse s w hs 10 10 rfl 46 (by simp [baseZ, h58]) (by simp [signZ, h58]) 1 4 5 (.inl ⟨rfl, rfl, rfl, rfl, rfl⟩)).mono ?_
    rintro e w' ⟨h, hb⟩
    refine ⟨?_, hb⟩
    rcases h with ⟨l, hl, hr, h16, a', c', rfl, hi⟩ | ⟨hno, rfl⟩
    · have h8 : l.length = 4 := by rw [putL_length (by omega)] at h16; omega
      obtain ⟨hpz, ht, hbl⟩ := law10_to h58 hl h8
      rw [putL_byt1 hbl] at hi
      left
      unfold okP
      rw [hpz, h8]
      exact ⟨⟨.inl rfl, ht⟩, a', c', rfl, hi⟩
    · right
      refine ⟨fun hok => ?_, rfl⟩
      obtain ⟨l, hl, h8⟩ := law10_from h58 hok.1 hok.2
      rcases hno with hn | ⟨l', hl', hne⟩
      · rw [hn] at hl; cases hl
      · rw [hl'] at hl
        cases hl
        exact hne (by rw [putL_length (by omega), h8])
set_option maxHeartbeats 8000000 in
theorem walk_AddressParses (s : ByteArray) (w : World) (hg : Glob w) :
    Calls Tryz.prog 5 #[.string s] w fun e w' => e = .returned (.bool true) ∧ Below w.heap.size w w' := by
  have HG := Lib.hid hg
  clear hg
  by_cases hn : s.size ≤ 300
  · have d0 : decide ((300 : Int) < (s.size : Int)) = false := by simp; omega
    by_cases hok : okP s
    · obtain ⟨T, hT⟩ : ∃ T : Int, (if (pz s).length = 4 then 5 else 6) = T := ⟨_, rfl⟩
      have HT := Lib.hid hT
      obtain ⟨n, hnn⟩ : ∃ n, (pz s).length = n := ⟨_, rfl⟩
      have HNN := Lib.hid hnn
      have HK := Lib.hid hok
      have hstr : (textOf (pz s)).toList = s.toList := by rw [hok.2]
      go_enter Tryz.func5, Tryz.ntmps5
      go_wp2_with fail
      refine (awake_any _ HG.out).mono ?_
      rintro e w1 ⟨rfl, hb1⟩
      have HB1 := Lib.hid hb1
      have HG1 := Lib.hid (HG.out.below hb1)
      clear hb1
      go_wp2_with fail
      refine (parse_any s _ hn HG1.out).mono ?_
      rintro e w2 ⟨h, hb⟩
      obtain ⟨-, a1, c1, rfl, hi1⟩ := h.resolve_right fun h => h.1 HK.out
      clear h
      rw [HT.out, HNN.out]
      rw [HNN.out] at hi1
      unfold ndV
      have HI2 := Lib.hid (Nd.new (W := w2) T hi1)
      have hb' := hb.alloc hb.size (.cells #[.int .u16 T, .slice a1 n c1, .slice none 0 0] 26)
      have HG2 := Lib.hid (HG1.out.below hb')
      have HB2 := Lib.hid (HB1.out.trans (hb'.mono HB1.out.size))
      clear hb hb' hi1 hT hnn hok
      go_wp2_with fail
      refine (ref_any s _ hn).mono ?_
      rintro e w3 ⟨h, hb⟩
      obtain ⟨-, a3, c3, rfl, hi3⟩ := h.resolve_right fun h => h.1 HK.out
      clear h
      rw [HT.out, HNN.out]
      rw [HNN.out] at hi3
      unfold ndV
      have HI3 := Lib.hid (Nd.new (W := w3) T hi3)
      have hb' := hb.alloc hb.size (.cells #[.int .u16 T, .slice a3 n c3, .slice none 0 0] 26)
      have HJ3 := Lib.hid (HI2.out.below hb')
      have HG3 := Lib.hid (HG2.out.below hb')
      have HB3 := Lib.hid (HB2.out.trans (hb'.mono HB2.out.size))
      clear hb hb' hi3 HI2
      have q := HI3.out.cells
      obtain ⟨p0, p1, p2⟩ := q
      have q := HJ3.out.cells
      obtain ⟨q0, q1, q2⟩ := q
      go_wp2_with fail
      refine (same9_any T T a1 a3 none none n c1 0 n c3 0 (pz s) (pz s) _ HJ3.out.2 HI3.out.2).mono ?_
      rintro e w4 ⟨rfl, hb⟩
      rw [eqL_true rfl, show (T == T && true) = true by simp]
      have HJ4 := Lib.hid (HJ3.out.below hb)
      have HG4 := Lib.hid (HG3.out.below hb)
      have HB4 := Lib.hid (HB3.out.trans (hb.mono HB3.out.size))
      clear hb p0 p1 p2 q0 q1 q2
      have q := HJ4.out.cells
      obtain ⟨q0, q1, q2⟩ := q
      go_wp2_with fail
      refine (text_any (pz s) (pz_byt s) HK.out.1 n HNN.out.symm a1 c1 T (by rw [← HT.out, HNN.out]) _ HG4.out HJ4.out.2).mono ?_
      rintro e w5 ⟨rfl, hb⟩
      have HB5 := Lib.hid (HB4.out.trans (hb.mono HB4.out.size))
      clear hb
      go_wp2
      go_ret
      exact ⟨rfl, HB5.out⟩
    · have HK := Lib.hid hok
      clear hok
      go_enter Tryz.func5, Tryz.ntmps5
      go_wp2_with fail
      refine (awake_any _ HG.out).mono ?_
      rintro e w1 ⟨rfl, hb1⟩
      have HB1 := Lib.hid hb1
      have HG1 := Lib.hid (HG.out.below hb1)
      clear hb1
      go_wp2_with fail
      refine (parse_any s _ hn HG1.out).mono ?_
      rintro e w2 ⟨h, hb⟩
      obtain ⟨-, rfl⟩ := h.resolve_left fun h => HK.out h.1
      clear h
      unfold zeroNode ndV
      have HN2 := Lib.hid (NdB.new w2 (.int .u16 0) (.slice none 0 0) (.slice none 0 0))
      have hb' := hb.alloc hb.size (.cells #[.int .u16 0, .slice none 0 0, .slice none 0 0] 26)
      have HB2 := Lib.hid (HB1.out.trans (hb'.mono HB1.out.size))
      clear hb hb'
      go_wp2_with fail
      refine (ref_any s _ hn).mono ?_
      rintro e w3 ⟨h, hb⟩
      obtain ⟨-, rfl⟩ := h.resolve_left fun h => HK.out h.1
      clear h
      unfold zeroNode ndV
      have HN3 := Lib.hid (NdB.new w3 (.int .u16 0) (.slice none 0 0) (.slice none 0 0))
      have hb' := hb.alloc hb.size (.cells #[.int .u16 0, .slice none 0 0, .slice none 0 0] 26)
      have HM3 := Lib.hid (HN2.out.below hb' HN2.out.lt)
      have HB3 := Lib.hid (HB2.out.trans (hb'.mono HB2.out.size))
      clear hb hb' HN2
      have q := HN3.out.cell
      obtain ⟨p0, p1, p2⟩ := q
      have q := HM3.out.cell
      obtain ⟨q0, q1, q2⟩ := q
      go_wp2_with fail
      refine (same9_any 0 0 none none none none 0 0 0 0 0 0 [] [] _ (Ints.nil _ _) (Ints.nil _ _)).mono ?_
      rintro e w4 ⟨rfl, hb⟩
      rw [eqL_true rfl]
      have HB4 := Lib.hid (HB3.out.trans (hb.mono HB3.out.size))
      clear hb
      go_wp2
      go_ret
      exact ⟨rfl, HB4.out⟩
  · have d0 : decide ((300 : Int) < (s.size : Int)) = true := by simp; omega
    go_enter Tryz.func5, Tryz.ntmps5
    go_wp2_with fail
    refine (awake_any _ HG.out).mono ?_
    rintro e w1 ⟨rfl, hb1⟩
    have HB1 := Lib.hid hb1
    have HG1 := Lib.hid (HG.out.below hb1)
    clear hb1
    go_wp2_with fail
    refine (awake_any _ HG1.out).mono ?_
    rintro e w2 ⟨rfl, hb⟩
    have HB2 := Lib.hid (HB1.out.trans (hb.mono HB1.out.size))
    clear hb
    go_wp2
    go_ret
    exact ⟨rfl, HB2.out⟩
end Go.Proofs.YtmncmbbgdkkgaaaGreatDoor

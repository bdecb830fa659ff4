/- The walks of PadMatchesReference and PadSizes. -/
import Derived.Test.YtblofchhpjmpjaaPad5
namespace Go.Proofs.Ytblofchhpjmpjaa
open Go.RowKit

theorem walk_PadMatchesReference (a : Option Addr) (n c : Nat) (zs : List Int) (x : Int) (w : World) (hx : Ints .u8 w a n c zs) (hb : Byt zs) (hx0 : 0 ≤ x) (hx1 : x ≤ 4294967295) :
    Calls Try.prog 3 #[.slice a n c, .int .u32 x] w fun e w' => e = .returned (.bool true) ∧ Below w.heap.size w w' := by
  have hc := hx.cap
  have HX := Lib.hid hx
  clear hx
  by_cases hl : 1000 < n
  · go_enter Try.func3, Try.ntmps3
    go_wp2_with fail
    refine (awake_any _).mono ?_
    rintro e w1 ⟨rfl, hb1⟩
    have HB1 := Lib.hid hb1
    clear hb1
    go_wp2_with fail
    refine (awake_any _).mono ?_
    rintro e w2 ⟨rfl, hb2⟩
    have HB2 := Lib.hid (HB1.out.trans (hb2.mono HB1.out.size))
    clear hb2
    go_wp2
    go_ret
    exact ⟨rfl, HB2.out⟩
  · have hgx := gap_bd x
    have hgn := gap_bd (n : Int)
    obtain ⟨g, hg⟩ := Int.eq_ofNat_of_zero_le hgn.1
    have HG := Lib.hid hg
    have hg4 : g < 4 := by omega
    clear hg hgn
    go_enter Try.func3, Try.ntmps3
    go_wp2_with fail
    refine (awake_any _).mono ?_
    rintro e w1 ⟨rfl, hb1⟩
    have HB1 := Lib.hid hb1
    have hs1 : w.heap.size ≤ w1.heap.size := hb1.size
    clear hb1
    go_wp2_with fail
    refine (bytes_any _ _ _ zs _ (HX.out.below HB1.out) hb (by omega)).mono ?_
    rintro e w2 ⟨v, rfl, hown, hb2⟩
    rw [HG.out, Int.toNat_natCast] at hown
    obtain ⟨a2, c2, hv2, hsl⟩ := Ints.own hown
    subst hv2
    have HS2 := Lib.hid hsl
    have HB2 := Lib.hid (HB1.out.trans (hb2.mono hs1))
    have hs2 : w.heap.size ≤ w2.heap.size := HB2.out.size
    clear hown hsl hb2
    go_wp2_with fail
    refine (gap_any _ _ (by omega) (by omega)).mono ?_
    rintro e w' ⟨rfl, rfl⟩
    go_wp2_with fail
    refine (refgap_any _ _ (by omega) (by omega)).mono ?_
    rintro e w' ⟨rfl, rfl⟩
    go_wp2_with fail
    refine (up_any _ _ (by omega) (by omega)).mono ?_
    rintro e w' ⟨rfl, rfl⟩
    go_wp2_with fail
    refine (refgap_any _ _ (by omega) (by omega)).mono ?_
    rintro e w' ⟨rfl, rfl⟩
    go_wp2_with fail
    refine (refbytes_any _ _ _ zs _ (HX.out.below HB2.out) (by omega)).mono ?_
    rintro e w3 ⟨v, rfl, hown, hb3⟩
    rw [HG.out, Int.toNat_natCast] at hown
    obtain ⟨a3, c3, hv3, hsl⟩ := Ints.own hown
    subst hv3
    have HS3 := Lib.hid hsl
    have HS2' := Lib.hid (HS2.out.below hb3)
    have HB3 := Lib.hid (HB2.out.trans (hb3.mono hs2))
    clear hown hsl hb3 HS2
    go_wp2_with fail
    refine (same_any _ _ _ _ _ _ _ _ _ HS2'.out HS3.out).mono ?_
    rintro e w4 ⟨rfl, hb4⟩
    rw [eqL_true rfl]
    have HB4 := Lib.hid (HB3.out.trans (hb4.mono HB3.out.size))
    clear hb4
    go_wp2_with fail
    refine (up_any _ _ (by omega) (by omega)).mono ?_
    rintro e w' ⟨rfl, rfl⟩
    rw [HG.out]
    go_wp2_with fail
    refine (zero_any _ _ _ zs _ (HX.out.below HB4.out)).mono ?_
    rintro e w' ⟨rfl, rfl⟩
    go_wp2_with fail
    refine (refzero_any _ _ _ zs _ (HX.out.below HB4.out)).mono ?_
    rintro e w' ⟨rfl, rfl⟩
    go_wp2
    go_ret
    exact ⟨rfl, HB4.out⟩

theorem info3 : (Try.prog.info? 3).map (fun i => (i.zero, i.size, i.bytes)) = some (some (.int .i64 0), 1, 8) := by kernel_rfl

theorem walk_PadSizes (a : Option Addr) (n c : Nat) (zs : List Int) (w : World) (hx : Ints .u16 w a n c zs) (hb : ∀ z ∈ zs, 0 ≤ z ∧ z ≤ 65535) :
    Calls Try.prog 5 #[.slice a n c] w fun e w' => e = .returned (.bool true) ∧ Below w.heap.size w w' := by
  obtain ⟨i0, hi, hz0, hz1, hz2⟩ := info_parts info3
  have hc := hx.cap
  have HX := Lib.hid hx
  by_cases hl : 50 < n
  · clear hx hb
    go_enter Try.func5, Try.ntmps5
    go_wp2_with fail
    refine (awake_any _).mono ?_
    rintro e w1 ⟨rfl, hb1⟩
    have HB1 := Lib.hid hb1
    clear hb1
    go_wp2_with fail
    refine (awake_any _).mono ?_
    rintro e w2 ⟨rfl, hb2⟩
    have HB2 := Lib.hid (HB1.out.trans (hb2.mono HB1.out.size))
    clear hb2
    go_wp2
    go_ret
    exact ⟨rfl, HB2.out⟩
  · have HBZ := Lib.hid hb
    have HL := Lib.hid hx.len
    obtain ⟨b1, o1, ha, hcx⟩ := hx.loc
    have HC := Lib.hid hcx
    clear hx hb hcx
    rcases ha with rfl | hn0
    all_goals
      go_enter Try.func5, Try.ntmps5
      go_wp2_with fail
      refine (awake_any _).mono ?_
      rintro e w1 ⟨rfl, hb1'⟩
      have HB1 := Lib.hid hb1'
      clear hb1'
      go_wp2_with fail
      go_loopw [3, 4] (fun v i wr => ∃ k : Nat, k ≤ n ∧ i = .int .i64 k ∧ (∃ a' c', v = .slice a' k c') ∧ wr.ownsRow w.heap.size 3 1 v k ((zs.take k).map (Value.int .i64)) ∧ Below w.heap.size w wr) (fun _ i _ => n - (intOf i).toNat)
      case atStart => exact ⟨0, Nat.zero_le _, rfl, ⟨_, _, rfl⟩, World.ownsRow_nil _ _ _ _, HB1.out⟩
      case round =>
        obtain ⟨k, hk, rfl, ⟨a', c', rfl⟩, hown, hbw⟩ := hrel
        have HO := Lib.hid hown
        have HW := Lib.hid hbw
        have hsw : w.heap.size ≤ wr.heap.size := hbw.size
        clear hown hbw
        by_cases hlt : k < n
        · try (exfalso; omega)
          all_goals
            have hcell : wr.cell? ⟨b1, o1 + k, none⟩ = some (.int .u16 (nth zs k)) := (HW.out.cell (p := ⟨b1, o1 + k, none⟩) (HC.out k hlt).1).trans (HC.out k hlt).2
            have hzb := HBZ.out (nth zs k) (nth_mem (by rw [HL.out]; exact hlt))
            have hst := Lib.hid (take_succ_nth (zs := zs) (k := k) (by rw [HL.out]; exact hlt))
            go_wp2_with (at_builtin; refine append_own_any _ rfl _ _ 34 rfl w.heap.size 3 i0 (.int .i64 0) 8 Try.underlying34 hi hz0 hz1 hz2 rfl (.slice a' k c') _ _ rfl (HO.out.alloc _) _ _ _ [.int .i64 (nth zs k)] rfl (Sl.new wr [.int .i64 (nth zs k)] 3 1 rfl (by omega)) (ints_oneCell .i64 [nth zs k]) (by unfold maxLen; omega) (by omega) (by simp; omega) ?_; intro v' w2 hown1 hgrow)
            have hown2 : w2.ownsRow w.heap.size 3 1 v' (k + 1) ((zs.take (k + 1)).map (Value.int .i64)) := by rw [hst.out, List.map_append]; exact hown1.out
            obtain ⟨a3, c3, hv3, _⟩ := Sl.own hown2
            subst hv3
            have HO2 := Lib.hid hown2
            have HW2 := Lib.hid ((HW.out.alloc hsw (.cells #[.int .i64 (nth zs k)] 3)).grown hgrow.out (by simp; omega) (fun k' hk' => (HO.out.lt k' hk').1))
            clear hown1 hown2 hgrow HO HW
            go_roundw
            case rel => exact ⟨k + 1, by omega, by go_num, ⟨_, _, rfl⟩, HO2.out, HW2.out⟩
            case measure => simp [intOf]; omega
        · obtain rfl : k = n := by omega
          have he : zs.take k = zs := List.take_of_length_le (by rw [HL.out]; omega)
          rw [he] at HO
          obtain ⟨a3, c3, hv3, hs3⟩ := Ints.own HO.out
          simp only [Value.slice.injEq] at hv3
          obtain ⟨rfl, _, rfl⟩ := hv3
          have HS3 := Lib.hid hs3
          clear he hs3
          have hzb : Hid (∀ z ∈ zs, 0 ≤ z ∧ z ≤ 1048576) := fun z hz => by have := HBZ.out z hz; omega
          have hbd : 0 ≤ szs zs ∧ szs zs ≤ 1099514773504 := by
            have := szs_take_bd zs k (by omega) hzb.out
            rwa [List.take_of_length_le (by rw [HL.out]; omega)] at this
          have hgz := gap_bd (szs zs)
          go_wp2_with fail
          refine (sizes_any _ _ _ zs _ HS3.out (by omega) hzb.out).mono ?_
          rintro e w2 ⟨rfl, hb2⟩
          have HS4 := Lib.hid (HS3.out.below hb2)
          have HO4 := Lib.hid (own_below HO.out hb2)
          have HW2 := Lib.hid (HW.out.trans (hb2.mono hsw))
          have hs2 : w.heap.size ≤ w2.heap.size := HW2.out.size
          clear hb2 HS3 HO HW
          go_wp2_with fail
          refine (refsizes_any _ _ _ zs _ HS4.out (by omega) hzb.out).mono ?_
          rintro e w' ⟨rfl, rfl⟩
          go_wp2_with (at_builtin; refine append_own_any _ rfl _ _ 34 rfl w.heap.size 3 i0 (.int .i64 0) 8 Try.underlying34 hi hz0 hz1 hz2 rfl (.slice a' k c') _ _ rfl (HO4.out.alloc _) _ _ _ [.int .i64 0] rfl (Sl.new w2 [.int .i64 0] 3 1 rfl (by omega)) (ints_oneCell .i64 [0]) (by unfold maxLen; omega) (by omega) (by simp; omega) ?_; intro v' w3 hown1 hgrow)
          have hown2 : w3.ownsRow w.heap.size 3 1 v' (k + 1) ((zs ++ [0]).map (Value.int .i64)) := by rw [List.map_append]; exact hown1.out
          obtain ⟨a3, c3, hv3, hs3⟩ := Ints.own hown2
          subst hv3
          have HS5 := Lib.hid hs3
          have HW3 := Lib.hid ((HW2.out.alloc hs2 (.cells #[.int .i64 0] 3)).grown hgrow.out (by simp; omega) (fun k' hk' => (HO4.out.lt k' hk').1))
          have hs3' : w.heap.size ≤ w3.heap.size := HW3.out.size
          clear hown1 hown2 hgrow hs3 HO4 HS4
          have hz2 : ∀ z ∈ zs ++ [0], 0 ≤ z ∧ z ≤ 1048576 := fun z hz => by
            rcases List.mem_append.1 hz with h | h
            · exact hzb.out z h
            · simp at h; omega
          have HZ2 := Lib.hid hz2
          clear hz2
          go_wp2_with fail
          refine (sizes_any _ _ _ (zs ++ [0]) _ HS5.out (by omega) HZ2.out).mono ?_
          rintro e w4 ⟨rfl, hb4⟩
          rw [szs_snoc]
          have HW4 := Lib.hid (HW3.out.trans (hb4.mono hs3'))
          clear hb4
          go_wp2_with fail
          refine (up_any _ _ (by omega) (by omega)).mono ?_
          rintro e w' ⟨rfl, rfl⟩
          go_wp2
          go_ret
          exact ⟨by simp, HW4.out⟩

end Go.Proofs.Ytblofchhpjmpjaa

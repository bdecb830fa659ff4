/- The walk of KindFits. -/
import Derived.Test.YtoioindpmgkefaaDoorKind9
import Derived.Deep.RegionWith
namespace Go.Proofs.YtoioindpmgkefaaDoor
open Go.RowKit

set_option maxHeartbeats 4000000 in
theorem walk_KindFits (n size : Int) (w : World) (hT : TabOk w) (hI : InsOk w) (hn1 : n ≤ 9223372036854775807) (hs0 : -9223372036854775808 ≤ size) (hs1 : size ≤ 9223372036854775807) :
    Calls Tryd.prog 4 #[.int .i64 n, .int .i64 size] w fun e w' => e = .returned (.bool true) ∧ Below w.heap.size w w' := by
  have HT := Lib.hid hT
  have HI := Lib.hid hI
  clear hT hI
  by_cases hn : n < 0
  · go_enter Tryd.func4, Tryd.ntmps4
    go_wp2_with fail
    refine (awake_any _ HT.out HI.out).mono ?_
    rintro e w1 ⟨rfl, hb1⟩
    have HB1 := Lib.hid hb1
    clear hb1
    go_wp2_with fail
    refine (awake_any _ (HT.out.below HB1.out) (HI.out.below HB1.out)).mono ?_
    rintro e w2 ⟨rfl, hb2⟩
    have HB2 := Lib.hid (HB1.out.trans (hb2.mono HB1.out.size))
    clear hb2
    go_wp2
    go_ret
    exact ⟨rfl, HB2.out⟩
  · obtain ⟨N, rfl⟩ := Int.eq_ofNat_of_zero_le (show 0 ≤ n by omega)
    obtain ⟨b1, b2, b3, b4, b5, b6⟩ := rows_bd (i := N % 23) (Nat.mod_lt _ (by decide))
    go_enter Tryd.func4, Tryd.ntmps4
    go_wp2_with fail
    refine (awake_any _ HT.out HI.out).mono ?_
    rintro e w1 ⟨rfl, hb1⟩
    have HB1 := Lib.hid hb1
    have hs1 : w.heap.size ≤ w1.heap.size := hb1.size
    clear hb1
    go_wp2_with fail
    refine (number_any N _ (by omega)).mono ?_
    rintro e w2 ⟨rfl, hb2⟩
    have HB2 := Lib.hid (HB1.out.trans (hb2.mono hs1))
    have hs2 : w.heap.size ≤ w2.heap.size := HB2.out.size
    clear hb2
    generalize N % 23 = q at *
    go_wp2
    go_region_with (first | (go_at_call 13; refine (fits_exact _ _ _ _ _ _ _ _ _ b1 b2 b5 b6 hs0 (by assumption)).mono ?_; rintro e w' ⟨rfl, rfl⟩) | (go_at_call 14; refine (reffits_exact _ _ _ _ _ _ _ _ _ b1 b2 b3 b4 b5 b6).mono ?_; rintro e w' ⟨rfl, rfl⟩))
    all_goals go_wp2
    all_goals go_ret
    all_goals exact ⟨rfl, (((HB2.out.drew.alloc hs2 _).alloc (by simp; omega) _).alloc (by simp; omega) _)⟩

end Go.Proofs.YtoioindpmgkefaaDoor

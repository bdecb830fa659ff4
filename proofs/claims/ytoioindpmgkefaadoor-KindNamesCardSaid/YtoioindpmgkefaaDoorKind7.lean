/- The walk of KindInside. -/
import Derived.Test.YtoioindpmgkefaaDoorKind6
namespace Go.Proofs.YtoioindpmgkefaaDoor
open Go.RowKit

/-- KindInside -/
theorem z0 : it0 0 = 0 := by decide +kernel
theorem z1 : it1 0 = 0 := by decide +kernel
theorem z2 : it2 0 = 0 := by decide +kernel
theorem i1 : it0 1 = 1 ∧ it1 1 = 1 ∧ it2 1 = 1 ∧ refClass 1 = 1 := by decide +kernel
theorem walk_inside1 (w : World) (hT : TabOk w) (hI : InsOk w) :
    Calls Tryd.prog 5 #[.int .i64 1] w fun e w' => e = .returned (.bool true) ∧ Below w.heap.size w w' := by
  have HT := Lib.hid hT
  have HI := Lib.hid hI
  clear hT hI
  go_enter Tryd.func5, Tryd.ntmps5
  go_wp2_with fail
  refine (awake_any _ HT.out HI.out).mono ?_
  rintro e w1 ⟨rfl, hb1⟩
  have HB1 := Lib.hid hb1
  clear hb1
  go_wp2_with fail
  refine (inside_yes 1 _ (HI.out.below HB1.out) (by omega)).mono ?_
  rintro e w2 ⟨rfl, hb2⟩
  rw [i1.1, i1.2.1, i1.2.2.1]
  have HB2 := Lib.hid (HB1.out.trans (hb2.mono HB1.out.size))
  have hs2 : w.heap.size ≤ w2.heap.size := HB2.out.size
  clear hb2
  go_wp2_with fail
  refine (class_any 1 _).mono ?_
  rintro e w' ⟨rfl, rfl⟩
  rw [i1.2.2.2]
  go_wp2
  go_ret
  exact ⟨rfl, (HB2.out.alloc hs2 _).alloc (by simp; omega) _⟩
theorem i2 : it0 2 = 1 ∧ it1 2 = 0 ∧ it2 2 = 16384 ∧ refClass 2 = 1 := by decide +kernel
theorem walk_inside2 (w : World) (hT : TabOk w) (hI : InsOk w) :
    Calls Tryd.prog 5 #[.int .i64 2] w fun e w' => e = .returned (.bool true) ∧ Below w.heap.size w w' := by
  have HT := Lib.hid hT
  have HI := Lib.hid hI
  clear hT hI
  go_enter Tryd.func5, Tryd.ntmps5
  go_wp2_with fail
  refine (awake_any _ HT.out HI.out).mono ?_
  rintro e w1 ⟨rfl, hb1⟩
  have HB1 := Lib.hid hb1
  clear hb1
  go_wp2_with fail
  refine (inside_yes 2 _ (HI.out.below HB1.out) (by omega)).mono ?_
  rintro e w2 ⟨rfl, hb2⟩
  rw [i2.1, i2.2.1, i2.2.2.1]
  have HB2 := Lib.hid (HB1.out.trans (hb2.mono HB1.out.size))
  have hs2 : w.heap.size ≤ w2.heap.size := HB2.out.size
  clear hb2
  go_wp2_with fail
  refine (class_any 2 _).mono ?_
  rintro e w' ⟨rfl, rfl⟩
  rw [i2.2.2.2]
  go_wp2
  go_ret
  exact ⟨rfl, (HB2.out.alloc hs2 _).alloc (by simp; omega) _⟩
theorem i3 : it0 3 = 2 ∧ it1 3 = 0 ∧ it2 3 = 16384 ∧ refClass 3 = 2 := by decide +kernel
theorem walk_inside3 (w : World) (hT : TabOk w) (hI : InsOk w) :
    Calls Tryd.prog 5 #[.int .i64 3] w fun e w' => e = .returned (.bool true) ∧ Below w.heap.size w w' := by
  have HT := Lib.hid hT
  have HI := Lib.hid hI
  clear hT hI
  go_enter Tryd.func5, Tryd.ntmps5
  go_wp2_with fail
  refine (awake_any _ HT.out HI.out).mono ?_
  rintro e w1 ⟨rfl, hb1⟩
  have HB1 := Lib.hid hb1
  clear hb1
  go_wp2_with fail
  refine (inside_yes 3 _ (HI.out.below HB1.out) (by omega)).mono ?_
  rintro e w2 ⟨rfl, hb2⟩
  rw [i3.1, i3.2.1, i3.2.2.1]
  have HB2 := Lib.hid (HB1.out.trans (hb2.mono HB1.out.size))
  have hs2 : w.heap.size ≤ w2.heap.size := HB2.out.size
  clear hb2
  go_wp2_with fail
  refine (class_any 3 _).mono ?_
  rintro e w' ⟨rfl, rfl⟩
  rw [i3.2.2.2]
  go_wp2
  go_ret
  exact ⟨rfl, (HB2.out.alloc hs2 _).alloc (by simp; omega) _⟩
theorem i4 : it0 4 = 2 ∧ it1 4 = 1 ∧ it2 4 = 16384 ∧ refClass 4 = 2 := by decide +kernel
theorem walk_inside4 (w : World) (hT : TabOk w) (hI : InsOk w) :
    Calls Tryd.prog 5 #[.int .i64 4] w fun e w' => e = .returned (.bool true) ∧ Below w.heap.size w w' := by
  have HT := Lib.hid hT
  have HI := Lib.hid hI
  clear hT hI
  go_enter Tryd.func5, Tryd.ntmps5
  go_wp2_with fail
  refine (awake_any _ HT.out HI.out).mono ?_
  rintro e w1 ⟨rfl, hb1⟩
  have HB1 := Lib.hid hb1
  clear hb1
  go_wp2_with fail
  refine (inside_yes 4 _ (HI.out.below HB1.out) (by omega)).mono ?_
  rintro e w2 ⟨rfl, hb2⟩
  rw [i4.1, i4.2.1, i4.2.2.1]
  have HB2 := Lib.hid (HB1.out.trans (hb2.mono HB1.out.size))
  have hs2 : w.heap.size ≤ w2.heap.size := HB2.out.size
  clear hb2
  go_wp2_with fail
  refine (class_any 4 _).mono ?_
  rintro e w' ⟨rfl, rfl⟩
  rw [i4.2.2.2]
  go_wp2
  go_ret
  exact ⟨rfl, (HB2.out.alloc hs2 _).alloc (by simp; omega) _⟩
theorem i5 : it0 5 = 1 ∧ it1 5 = 1 ∧ it2 5 = 2 ∧ refClass 5 = 1 := by decide +kernel
theorem walk_inside5 (w : World) (hT : TabOk w) (hI : InsOk w) :
    Calls Tryd.prog 5 #[.int .i64 5] w fun e w' => e = .returned (.bool true) ∧ Below w.heap.size w w' := by
  have HT := Lib.hid hT
  have HI := Lib.hid hI
  clear hT hI
  go_enter Tryd.func5, Tryd.ntmps5
  go_wp2_with fail
  refine (awake_any _ HT.out HI.out).mono ?_
  rintro e w1 ⟨rfl, hb1⟩
  have HB1 := Lib.hid hb1
  clear hb1
  go_wp2_with fail
  refine (inside_yes 5 _ (HI.out.below HB1.out) (by omega)).mono ?_
  rintro e w2 ⟨rfl, hb2⟩
  rw [i5.1, i5.2.1, i5.2.2.1]
  have HB2 := Lib.hid (HB1.out.trans (hb2.mono HB1.out.size))
  have hs2 : w.heap.size ≤ w2.heap.size := HB2.out.size
  clear hb2
  go_wp2_with fail
  refine (class_any 5 _).mono ?_
  rintro e w' ⟨rfl, rfl⟩
  rw [i5.2.2.2]
  go_wp2
  go_ret
  exact ⟨rfl, (HB2.out.alloc hs2 _).alloc (by simp; omega) _⟩
theorem i6 : it0 6 = 1 ∧ it1 6 = 2 ∧ it2 6 = 16384 ∧ refClass 6 = 1 := by decide +kernel
theorem walk_inside6 (w : World) (hT : TabOk w) (hI : InsOk w) :
    Calls Tryd.prog 5 #[.int .i64 6] w fun e w' => e = .returned (.bool true) ∧ Below w.heap.size w w' := by
  have HT := Lib.hid hT
  have HI := Lib.hid hI
  clear hT hI
  go_enter Tryd.func5, Tryd.ntmps5
  go_wp2_with fail
  refine (awake_any _ HT.out HI.out).mono ?_
  rintro e w1 ⟨rfl, hb1⟩
  have HB1 := Lib.hid hb1
  clear hb1
  go_wp2_with fail
  refine (inside_yes 6 _ (HI.out.below HB1.out) (by omega)).mono ?_
  rintro e w2 ⟨rfl, hb2⟩
  rw [i6.1, i6.2.1, i6.2.2.1]
  have HB2 := Lib.hid (HB1.out.trans (hb2.mono HB1.out.size))
  have hs2 : w.heap.size ≤ w2.heap.size := HB2.out.size
  clear hb2
  go_wp2_with fail
  refine (class_any 6 _).mono ?_
  rintro e w' ⟨rfl, rfl⟩
  rw [i6.2.2.2]
  go_wp2
  go_ret
  exact ⟨rfl, (HB2.out.alloc hs2 _).alloc (by simp; omega) _⟩
theorem walk_KindInside (k : Int) (w : World) (hT : TabOk w) (hI : InsOk w) :
    Calls Tryd.prog 5 #[.int .i64 k] w fun e w' => e = .returned (.bool true) ∧ Below w.heap.size w w' := by
  by_cases hk : k < 0 ∨ 7 ≤ k
  · have HT := Lib.hid hT
    have HI := Lib.hid hI
    clear hT hI
    rcases hk with hk | hk
    all_goals
      go_enter Tryd.func5, Tryd.ntmps5
      go_wp2_with fail
      refine (awake_any _ HT.out HI.out).mono ?_
      rintro e w1 ⟨rfl, hb1⟩
      have HB1 := Lib.hid hb1
      clear hb1
      go_wp2_with fail
      refine (inside_no _ _ (by omega)).mono ?_
      rintro e w2 ⟨rfl, hb2⟩
      have HB2 := Lib.hid (HB1.out.trans (hb2.mono HB1.out.size))
      clear hb2
      go_wp2
      go_ret
      exact ⟨rfl, HB2.out⟩
  · have h16 : k = 0 ∨ k = 1 ∨ k = 2 ∨ k = 3 ∨ k = 4 ∨ k = 5 ∨ k = 6 := by omega
    rcases h16 with rfl | rfl | rfl | rfl | rfl | rfl | rfl
    · have HT := Lib.hid hT
      have HI := Lib.hid hI
      clear hT hI hk
      go_enter Tryd.func5, Tryd.ntmps5
      go_wp2_with fail
      refine (awake_any _ HT.out HI.out).mono ?_
      rintro e w1 ⟨rfl, hb1⟩
      have HB1 := Lib.hid hb1
      clear hb1
      go_wp2_with fail
      refine (inside_yes 0 _ (HI.out.below HB1.out) (by omega)).mono ?_
      rintro e w2 ⟨rfl, hb2⟩
      rw [z0, z1, z2]
      have HB2 := Lib.hid (HB1.out.trans (hb2.mono HB1.out.size))
      clear hb2
      go_wp2
      go_ret
      exact ⟨rfl, HB2.out⟩
    · exact walk_inside1 w hT hI
    · exact walk_inside2 w hT hI
    · exact walk_inside3 w hT hI
    · exact walk_inside4 w hT hI
    · exact walk_inside5 w hT hI
    · exact walk_inside6 w hT hI

end Go.Proofs.YtoioindpmgkefaaDoor

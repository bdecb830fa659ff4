/- What the laws of package kind check first. -/
import Derived.Test.YtoioindpmgkefaaDoorKind5
import Derived.Test.YtoioindpmgkefaaDoorSame
namespace Go.Proofs.YtoioindpmgkefaaDoor
open Go.RowKit

theorem a1 : ixt 3 = 3 := by decide +kernel
theorem a2 : fnd 3 = true := by decide +kernel
theorem a3 : fnd 16 = false := by decide +kernel
theorem a4 : ixt 16 = 23 := by decide +kernel
theorem a5 : it0 5 = 1 := by decide +kernel
theorem a6 : it1 5 = 1 := by decide +kernel
theorem a7 : it2 5 = 2 := by decide +kernel
theorem a8 : ((kname 3).toList == [115, 97, 99, 107]) = true := by decide +kernel
theorem a9 : fitB (kleast 3) (kmost 3) (kunit 3) 12 = true := by decide +kernel
theorem a10 : fitB (kleast 3) (kmost 3) (kunit 3) 16 = true := by decide +kernel
theorem a11 : fitB (kleast 3) (kmost 3) (kunit 3) 14 = false := by decide +kernel
theorem row3 (w w2 : World) (t : TypeId) (hb : Below (w.heap.size + 1) (w.alloc (.cells #[.int .u8 (kty 3), .string (kname 3), .int .u8 (kmask 3), .int .i64 (kleast 3), .int .i64 (kmost 3), .int .i64 (kunit 3), .int .i64 (kkids 3)] t)) w2) :
    w2.cell? ⟨w.heap.size, 0, none⟩ = some (.int .u8 (kty 3)) ∧ w2.cell? ⟨w.heap.size, 1, none⟩ = some (.string (kname 3)) ∧ w2.cell? ⟨w.heap.size, 2, none⟩ = some (.int .u8 (kmask 3)) ∧ w2.cell? ⟨w.heap.size, 3, none⟩ = some (.int .i64 (kleast 3)) ∧
    w2.cell? ⟨w.heap.size, 4, none⟩ = some (.int .i64 (kmost 3)) ∧ w2.cell? ⟨w.heap.size, 5, none⟩ = some (.int .i64 (kunit 3)) ∧ w2.cell? ⟨w.heap.size, 6, none⟩ = some (.int .i64 (kkids 3)) := by
  have e : ∀ j, w2.cell? ⟨w.heap.size, j, none⟩ = #[Value.int .u8 (kty 3), .string (kname 3), .int .u8 (kmask 3), .int .i64 (kleast 3), .int .i64 (kmost 3), .int .i64 (kunit 3), .int .i64 (kkids 3)][j]? := fun j => by
    rw [hb.cell (p := ⟨w.heap.size, j, none⟩) (Nat.lt_succ_self _), World.cell?_alloc_at _ _ _ _ rfl]
  exact ⟨e 0, e 1, e 2, e 3, e 4, e 5, e 6⟩

theorem awake_any (w : World) (hT : TabOk w) (hI : InsOk w) : Calls Tryd.prog 8 #[] w fun e w' => e = .returned (.bool true) ∧ Below w.heap.size w w' := by
  have HT := Lib.hid hT
  have HI := Lib.hid hI
  have hrb := rows_bd (i := 3) (by decide)
  clear hT hI
  go_enter Tryd.func8, Tryd.ntmps8
  go_wp2_with fail
  refine (of_any 3 _ HT.out (by omega) (by omega)).mono ?_
  rintro e w1 ⟨rfl, hb1⟩
  rw [a1, a2]
  have HB1 := Lib.hid hb1
  have hs1 : w.heap.size ≤ w1.heap.size := hb1.size
  clear hb1
  go_wp2_with fail
  refine (of_any 16 _ (HT.out.below (HB1.out.alloc hs1 _)) (by omega) (by omega)).mono ?_
  rintro e w2 ⟨rfl, hb2⟩
  rw [a3, a4]
  rw [World.size_alloc] at hb2
  have H2 := Lib.hid hb2
  have HB2 := Lib.hid ((HB1.out.alloc hs1 _).trans (hb2.mono (Nat.le_succ_of_le hs1)))
  have hs2 : w.heap.size ≤ w2.heap.size := HB2.out.size
  have hs3 : w1.heap.size + 1 ≤ w2.heap.size := by have := hb2.size; simpa using this
  clear hb2
  go_wp2_with fail
  refine (inside_yes 5 _ (HI.out.below (HB2.out.alloc hs2 _)) (by omega)).mono ?_
  rintro e w3 ⟨rfl, hb3⟩
  rw [a5, a6, a7]
  have H3 := Lib.hid ((H2.out.alloc hs3 _).trans (hb3.mono (by simp; omega)))
  have HB3 := Lib.hid ((HB2.out.alloc hs2 _).trans (hb3.mono (by simp; omega)))
  have hs4 : w1.heap.size + 1 ≤ w3.heap.size := by have := H3.out.size; simpa using this
  obtain ⟨c0, c1, c2, c3, c4, c5, c6⟩ := row3 w1 w3 _ H3.out
  have h8 := a8
  clear hb3 H2 HB2
  go_wp2_with fail
  refine (fits_any _ _ _ _ _ _ _ 12 _ hrb.1 hrb.2.1 hrb.2.2.2.2.1 hrb.2.2.2.2.2 (by omega) (by omega)).mono ?_
  rintro e w4 ⟨rfl, hb4⟩
  rw [a9]
  have H4 := Lib.hid (H3.out.trans (hb4.mono (by omega)))
  have HB4 := Lib.hid (HB3.out.trans (hb4.mono (by omega)))
  have hs5 : w1.heap.size + 1 ≤ w4.heap.size := by have := H4.out.size; simpa using this
  clear hb4 c0 c1 c2 c3 c4 c5 c6
  obtain ⟨c0, c1, c2, c3, c4, c5, c6⟩ := row3 w1 w4 _ H4.out
  go_wp2_with fail
  refine (fits_any _ _ _ _ _ _ _ 16 _ hrb.1 hrb.2.1 hrb.2.2.2.2.1 hrb.2.2.2.2.2 (by omega) (by omega)).mono ?_
  rintro e w5 ⟨rfl, hb5⟩
  rw [a10]
  have H5 := Lib.hid (H4.out.trans (hb5.mono (by omega)))
  have HB5 := Lib.hid (HB4.out.trans (hb5.mono (by omega)))
  have hs6 : w1.heap.size + 1 ≤ w5.heap.size := by have := H5.out.size; simpa using this
  clear hb5 c0 c1 c2 c3 c4 c5 c6
  obtain ⟨c0, c1, c2, c3, c4, c5, c6⟩ := row3 w1 w5 _ H5.out
  go_wp2_with fail
  refine (fits_any _ _ _ _ _ _ _ 14 _ hrb.1 hrb.2.1 hrb.2.2.2.2.1 hrb.2.2.2.2.2 (by omega) (by omega)).mono ?_
  rintro e w6 ⟨rfl, hb6⟩
  rw [a11]
  have H6 := Lib.hid (H5.out.trans (hb6.mono (by omega)))
  have HB6 := Lib.hid (HB5.out.trans (hb6.mono (by omega)))
  have hs7 : w1.heap.size + 1 ≤ w6.heap.size := by have := H6.out.size; simpa using this
  clear hb6 c0 c1 c2 c3 c4 c5 c6
  obtain ⟨c0, c1, c2, c3, c4, c5, c6⟩ := row3 w1 w6 _ H6.out
  go_wp2_with fail
  refine (types_any _ (HT.out.below HB6.out)).mono ?_
  rintro e w7 ⟨v, rfl, hown, hb7⟩
  obtain ⟨av, cv, hv, _⟩ := Sl.own hown
  subst hv
  have HB7 := Lib.hid (HB6.out.trans (hb7.mono (by omega)))
  clear hb7 hown c0 c1 c2 c3 c4 c5 c6
  go_wp2_with (go_at_call 20; refine (isdata_any _ _).mono ?_; rintro e w' ⟨rfl, rfl⟩)
  go_ret
  exact ⟨rfl, HB7.out⟩

end Go.Proofs.YtoioindpmgkefaaDoor

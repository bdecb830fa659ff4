/- The walk of FaultShifts. -/
import Derived.Test.YtlaofaopajcfkaaDoorErr14
namespace Go.Proofs.YtlaofaopajcfkaaDoor
set_option maxRecDepth 100000
open Go.RowKit

theorem wrapE_cod : ∀ (ps : List ByteArray) (e : EV), (wrapE e ps).cod = e.cod
  | [], _ => rfl
  | p :: ps, e => wrapE_cod ps (.inn p e)
theorem wrapE_off : ∀ (ps : List ByteArray) (e : EV), (wrapE e ps).off = e.off
  | [], _ => rfl
  | p :: ps, e => wrapE_off ps (.inn p e)
theorem baseE_cod (cod at' : Int) (fl : Bool) : (baseE cod at' fl).cod = cod := by cases fl <;> rfl
theorem few_bd {ps : List ByteArray} {at' : Int} (h : fewB ps at' = true) : -1152921504606846976 < at' ∧ at' < 1152921504606846976 := by
  simp [fewB] at h; omega

set_option maxHeartbeats 8000000 in
theorem walk_FaultShifts (ni : Bool) (a : Option Addr) (n c : Nat) (ps : List ByteArray) (cod at' : Int) (fl : Bool) (m : Int) (w : World) (hg : TypOk w) (hn : NamOk w) (hs : Strs w a n ps) (hnc : n ≤ c) (hc : c ≤ 9223372036854775807)
    (hm0 : -2147483648 ≤ m) (hm1 : m ≤ 2147483647) :
    Calls Tryd.prog 4 #[.agg #[.bool ni, .slice a n c, .int .i64 cod, .int .i64 at', .bool fl], .int .i32 m] w fun e w' => e = .returned (.bool true) ∧ Below w.heap.size w w' := by
  have HG := Lib.hid hg
  have HN := Lib.hid hn
  have HS := Lib.hid hs
  have hw1 : IntKind.i64.wrap m = m := by rw [IntKind.wrap_i64]; omega
  clear hg hn hs
  go_enter Tryd.func4, Tryd.ntmps4
  go_wp2_with fail
  obtain ⟨w1, hw1'⟩ : ∃ w1, w.alloc (.cells #[.bool ni, .slice a n c, .int .i64 cod, .int .i64 at', .bool fl] 24) = w1 := ⟨_, rfl⟩
  rw [hw1']
  have HB1 := Lib.hid (show Below w.heap.size w w1 by rw [← hw1']; exact (Below.refl _ w).alloc (Nat.le_refl _) _)
  have hs1 : w1.heap.size = w.heap.size + 1 := by rw [← hw1']; simp
  have HX0 := Lib.hid (show w1.cell? ⟨w.heap.size, 0, none⟩ = some (.bool ni) by rw [← hw1']; simp)
  have HX1 := Lib.hid (show w1.cell? ⟨w.heap.size, 1, none⟩ = some (.slice a n c) by rw [← hw1']; simp)
  have HX2 := Lib.hid (show w1.cell? ⟨w.heap.size, 2, none⟩ = some (.int .i64 cod) by rw [← hw1']; simp)
  have HX3 := Lib.hid (show w1.cell? ⟨w.heap.size, 3, none⟩ = some (.int .i64 at') by rw [← hw1']; simp)
  have HX4 := Lib.hid (show w1.cell? ⟨w.heap.size, 4, none⟩ = some (.bool fl) by rw [← hw1']; simp)
  clear hw1'
  refine (awake_any _ (HG.out.below HB1.out) (HN.out.below HB1.out)).mono ?_
  rintro e w2 ⟨rfl, hb2⟩
  have x0 := (hb2.cell (p := ⟨w.heap.size, 0, none⟩) (by show w.heap.size < _; omega)).trans HX0.out
  have x1 := (hb2.cell (p := ⟨w.heap.size, 1, none⟩) (by show w.heap.size < _; omega)).trans HX1.out
  have x2 := (hb2.cell (p := ⟨w.heap.size, 2, none⟩) (by show w.heap.size < _; omega)).trans HX2.out
  have x3 := (hb2.cell (p := ⟨w.heap.size, 3, none⟩) (by show w.heap.size < _; omega)).trans HX3.out
  have x4 := (hb2.cell (p := ⟨w.heap.size, 4, none⟩) (by show w.heap.size < _; omega)).trans HX4.out
  have HB2 := Lib.hid (HB1.out.trans (hb2.mono HB1.out.size))
  clear hb2
  go_wp2_with fail
  refine (few_any ni a n c ps cod at' fl _ (HS.out.below HB2.out) hnc hc).mono ?_
  rintro e w3 ⟨rfl, hb3⟩
  have HX0 := Lib.hid ((hb3.cell (p := ⟨w.heap.size, 0, none⟩) (lt_of_cell x0)).trans x0)
  have HX1 := Lib.hid ((hb3.cell (p := ⟨w.heap.size, 1, none⟩) (lt_of_cell x1)).trans x1)
  have HX2 := Lib.hid ((hb3.cell (p := ⟨w.heap.size, 2, none⟩) (lt_of_cell x2)).trans x2)
  have HX3 := Lib.hid ((hb3.cell (p := ⟨w.heap.size, 3, none⟩) (lt_of_cell x3)).trans x3)
  have HX4 := Lib.hid ((hb3.cell (p := ⟨w.heap.size, 4, none⟩) (lt_of_cell x4)).trans x4)
  have HB3 := Lib.hid (HB2.out.trans (hb3.mono HB2.out.size))
  have hlt3 : w.heap.size < w3.heap.size := Nat.lt_of_lt_of_le (lt_of_cell x0) hb3.size
  clear hb3 x0 x1 x2 x3 x4
  cases hfb : fewB ps at' with
  | false =>
    clear hfb
    go_wp2_with fail
    refine (awake_any _ (HG.out.below HB3.out) (HN.out.below HB3.out)).mono ?_
    rintro e w4 ⟨rfl, hb4⟩
    have HB4 := Lib.hid (HB3.out.trans (hb4.mono HB3.out.size))
    clear hb4
    go_wp2
    go_ret
    exact ⟨rfl, HB4.out⟩
  | true =>
    have hbd := few_bd hfb
    have HBD := Lib.hid hbd
    clear hfb hbd
    have x0 := HX0.out
    have x1 := HX1.out
    have x2 := HX2.out
    have x3 := HX3.out
    have x4 := HX4.out
    cases ni with
    | true =>
      go_wp2_with fail
      refine (build_nil a n c cod at' fl _).mono ?_
      rintro e w4 ⟨rfl, hb4⟩
      have y0 := (hb4.cell (p := ⟨w.heap.size, 0, none⟩) hlt3).trans x0
      have HB4 := Lib.hid (HB3.out.trans (hb4.mono HB3.out.size))
      clear hb4 x0 x1 x2 x3 x4
      go_wp2_with fail
      refine (shift_nil m _).mono ?_
      rintro e w5 ⟨rfl, hb5⟩
      have x0 := (hb5.cell (p := ⟨w.heap.size, 0, none⟩) (lt_of_cell y0)).trans y0
      have HB5 := Lib.hid (HB4.out.trans (hb5.mono HB4.out.size))
      clear hb5 y0
      go_wp2
      go_ret
      exact ⟨rfl, HB5.out⟩
    | false =>
      obtain ⟨E, hE⟩ : ∃ E, E = wrapE (baseE cod at' fl) ps := ⟨_, rfl⟩
      have hcod : E.cod = cod := by rw [hE, wrapE_cod, baseE_cod]
      have hoff : E.off = (baseE cod at' fl).off := by rw [hE, wrapE_off]
      have HCOD := Lib.hid hcod
      have hob : -1152921504606846976 < E.off.getD 0 ∧ E.off.getD 0 < 1152921504606846976 := by
        rw [hoff]
        cases fl
        · simp [baseE, EV.off]
        · simpa [baseE, EV.off] using HBD.out
      have HOB := Lib.hid hob
      go_wp2_with fail
      refine (build_any a n c ps cod at' fl _ (HS.out.below HB3.out) hnc hc).mono ?_
      rintro e w4 ⟨rfl, hb4⟩
      rw [← hE]
      have HE := Lib.hid hE
      have HOF := Lib.hid hoff
      clear hE hcod hoff hob
      have y0 := (hb4.cell (p := ⟨w.heap.size, 0, none⟩) hlt3).trans x0
      have y2 := (hb4.cell (p := ⟨w.heap.size, 2, none⟩) hlt3).trans x2
      have y3 := (hb4.cell (p := ⟨w.heap.size, 3, none⟩) hlt3).trans x3
      have y4 := (hb4.cell (p := ⟨w.heap.size, 4, none⟩) hlt3).trans x4
      have HB4 := Lib.hid (HB3.out.trans (hb4.mono HB3.out.size))
      clear hb4 x0 x1 x2 x3 x4
      go_wp2_with fail
      refine (shift_any E m _ (HG.out.below HB4.out) (by have := HOB.out; omega) (by have := HOB.out; omega)).mono ?_
      rintro e w5 ⟨rfl, hb5⟩
      have x0 := (hb5.cell (p := ⟨w.heap.size, 0, none⟩) (lt_of_cell y0)).trans y0
      have x2 := (hb5.cell (p := ⟨w.heap.size, 2, none⟩) (lt_of_cell y2)).trans y2
      have x3 := (hb5.cell (p := ⟨w.heap.size, 3, none⟩) (lt_of_cell y3)).trans y3
      have x4 := (hb5.cell (p := ⟨w.heap.size, 4, none⟩) (lt_of_cell y4)).trans y4
      have HB5 := Lib.hid (HB4.out.trans (hb5.mono HB4.out.size))
      clear hb5 y0 y2 y3 y4
      obtain ⟨T, hT⟩ : ∃ T, T = EV.flt E.cod (E.off.getD 0 + m) := ⟨_, rfl⟩
      rw [← hT]
      have hT1 : T.cod = cod := by rw [hT, ← HCOD.out]; rfl
      have hT2 : T.off = some (E.off.getD 0 + m) := by rw [hT]; rfl
      have HT1 := Lib.hid hT1
      have HT2 := Lib.hid hT2
      clear hT hT1 hT2
      go_wp2_with fail
      refine (code_any T _ (HG.out.below HB5.out)).mono ?_
      rintro e w6 ⟨rfl, hb6⟩
      rw [HT1.out]
      have y0 := (hb6.cell (p := ⟨w.heap.size, 0, none⟩) (lt_of_cell x0)).trans x0
      have y2 := (hb6.cell (p := ⟨w.heap.size, 2, none⟩) (lt_of_cell x2)).trans x2
      have y3 := (hb6.cell (p := ⟨w.heap.size, 3, none⟩) (lt_of_cell x3)).trans x3
      have y4 := (hb6.cell (p := ⟨w.heap.size, 4, none⟩) (lt_of_cell x4)).trans x4
      have HB6 := Lib.hid (HB5.out.trans (hb6.mono HB5.out.size))
      clear hb6 x0 x2 x3 x4
      go_wp2_with fail
      refine (at_any T _ (HG.out.below HB6.out)).mono ?_
      rintro e w7 ⟨rfl, hb7⟩
      rw [HT2.out]
      simp only [Option.getD_some, Option.isSome_some]
      have x0 := (hb7.cell (p := ⟨w.heap.size, 0, none⟩) (lt_of_cell y0)).trans y0
      have x2 := (hb7.cell (p := ⟨w.heap.size, 2, none⟩) (lt_of_cell y2)).trans y2
      have x3 := (hb7.cell (p := ⟨w.heap.size, 3, none⟩) (lt_of_cell y3)).trans y3
      have x4 := (hb7.cell (p := ⟨w.heap.size, 4, none⟩) (lt_of_cell y4)).trans y4
      have HB7 := Lib.hid (HB6.out.trans (hb7.mono HB6.out.size))
      clear hb7 y0 y2 y3 y4
      rw [HOF.out]
      have hw2 : IntKind.i64.wrap (m + at') = m + at' := by have := HBD.out; rw [IntKind.wrap_i64]; omega
      cases fl
      · simp only [baseE, EV.off, Option.getD_none]
        go_wp2
        go_ret
        exact ⟨by simp, HB7.out⟩
      · simp only [baseE, EV.off, Option.getD_some]
        go_wp2
        go_ret
        refine ⟨?_, HB7.out⟩
        simp [Int.add_comm]
end Go.Proofs.YtlaofaopajcfkaaDoor

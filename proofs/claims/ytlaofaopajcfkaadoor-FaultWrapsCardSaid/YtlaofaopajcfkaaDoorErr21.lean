/- The walk of FaultWraps. Printed by wip/tools/gen_fw.py. -/
import Derived.Test.YtlaofaopajcfkaaDoorErr20
namespace Go.Proofs.YtlaofaopajcfkaaDoor
set_option maxRecDepth 100000
open Go.RowKit

set_option maxHeartbeats 8000000 in
theorem fw1 (tb : Nat → Int) (a : Option Addr) (n c : Nat) (ps : List ByteArray) (cod at' : Int) (fl : Bool) (s : ByteArray) (bd0 bd : Value) (T : ByteArray) (w : World) (hg : TypOk w) (hn : NamOk w) (ht : TabP w tb) (hs : Strs w a n ps) (hnc : n ≤ c) (hc : c ≤ 9223372036854775807)
    (hfb : fewB ps at' = true) (hsz : s.size ≤ 50)
    (hbu : ∀ W, Strs W a n ps → Calls Tryd.prog 9 #[.agg #[.bool false, .slice a n c, .int .i64 cod, .int .i64 at', .bool fl]] W fun e w' => e = .returned (.iface 30 bd0) ∧ Below W.heap.size W w')
    (hin : ∀ W, Calls Tryd.prog 16 #[.string s, .iface 30 bd0] W fun e w' => e = .returned (.iface 54 bd) ∧ W = w')
    (hun : ∀ W, Calls Tryd.prog 17 #[.iface 54 bd] W fun e w' => e = .returned (.iface 30 bd0) ∧ Below W.heap.size W w')
    (htx : ∀ W, TabP W tb → Calls Tryd.prog 47 #[bd0] W fun e w' => e = .returned (.string T) ∧ Below W.heap.size W w')
    (his1 : ∀ W, Calls Tryd.prog 18 #[.iface 54 bd, .iface 30 (.int .i64 cod)] W fun e w' => e = .returned (.bool true) ∧ Below W.heap.size W w')
    (his2 : ∀ W k, k ≠ cod → Calls Tryd.prog 18 #[.iface 54 bd, .iface 30 (.int .i64 k)] W fun e w' => e = .returned (.bool false) ∧ Below W.heap.size W w') :
    Calls Tryd.prog 6 #[.agg #[.bool false, .slice a n c, .int .i64 cod, .int .i64 at', .bool fl], .string s] w fun e w' => e = .returned (.bool true) ∧ Below w.heap.size w w' := by
  have HG := Lib.hid hg
  have HN := Lib.hid hn
  have HS := Lib.hid hs
  have HT := Lib.hid ht
  have HBU := Lib.hid hbu
  have HIN := Lib.hid hin
  have HUN := Lib.hid hun
  have HTX := Lib.hid htx
  have HI1 := Lib.hid his1
  have HI2 := Lib.hid his2
  have hl50 : decide ((50 : Int) < (s.size : Int)) = false := by simp; omega
  clear hg hn hs ht hbu hin hun htx his1 his2
  go_enter Tryd.func6, Tryd.ntmps6
  go_wp2_with fail
  obtain ⟨w1, hw1'⟩ : ∃ w1, w.alloc (.cells #[.bool false, .slice a n c, .int .i64 cod, .int .i64 at', .bool fl] 24) = w1 := ⟨_, rfl⟩
  rw [hw1']
  have HB1 := Lib.hid (show Below w.heap.size w w1 by rw [← hw1']; exact (Below.refl _ w).alloc (Nat.le_refl _) _)
  have hs1 : w1.heap.size = w.heap.size + 1 := by rw [← hw1']; simp
  have HX0 := Lib.hid (show w1.cell? ⟨w.heap.size, 0, none⟩ = some (.bool false) by rw [← hw1']; simp)
  have HX1 := Lib.hid (show w1.cell? ⟨w.heap.size, 1, none⟩ = some (.slice a n c) by rw [← hw1']; simp)
  have HX2 := Lib.hid (show w1.cell? ⟨w.heap.size, 2, none⟩ = some (.int .i64 cod) by rw [← hw1']; simp)
  have HX3 := Lib.hid (show w1.cell? ⟨w.heap.size, 3, none⟩ = some (.int .i64 at') by rw [← hw1']; simp)
  have HX4 := Lib.hid (show w1.cell? ⟨w.heap.size, 4, none⟩ = some (.bool fl) by rw [← hw1']; simp)
  clear hw1'
  refine (awake_any _ (HG.out.below HB1.out) (HN.out.below HB1.out)).mono ?_
  rintro e w2 ⟨rfl, hb2⟩
  have x0 := (hb2.cell (p := ⟨w.heap.size, 0, none⟩) (by show w.heap.size < _; omega)).trans HX0.out
  have x1 := (hb2.cell (p := ⟨w.heap.size, 1, none⟩) (by show w.heap.size < _; omega)).trans HX1.out
  have x2 := (hb2.cell (p := ⟨w.heap.size, 2, none⟩) (by show w.heap.size < _; omega)).trans HX2.out
  have x3 := (hb2.cell (p := ⟨w.heap.size, 3, none⟩) (by show w.heap.size < _; omega)).trans HX3.out
  have x4 := (hb2.cell (p := ⟨w.heap.size, 4, none⟩) (by show w.heap.size < _; omega)).trans HX4.out
  have HB2 := Lib.hid (HB1.out.trans (hb2.mono HB1.out.size))
  clear hb2
  go_wp2_with fail
  refine (few_any false a n c ps cod at' fl _ (HS.out.below HB2.out) hnc hc).mono ?_
  rintro e w3 ⟨rfl, hb3⟩
  rw [hfb]
  have HB3 := Lib.hid (HB2.out.trans (hb3.mono HB2.out.size))
  have y0 := (hb3.cell (p := ⟨w.heap.size, 0, none⟩) (lt_of_cell x0)).trans x0
  have y1 := (hb3.cell (p := ⟨w.heap.size, 1, none⟩) (lt_of_cell x1)).trans x1
  have y2 := (hb3.cell (p := ⟨w.heap.size, 2, none⟩) (lt_of_cell x2)).trans x2
  have y3 := (hb3.cell (p := ⟨w.heap.size, 3, none⟩) (lt_of_cell x3)).trans x3
  have y4 := (hb3.cell (p := ⟨w.heap.size, 4, none⟩) (lt_of_cell x4)).trans x4
  clear hb3 x0 x1 x2 x3 x4 hfb
  go_wp2_with fail
  refine (HBU.out _ (HS.out.below HB3.out)).mono ?_
  rintro e w4 ⟨rfl, hb4⟩
  have HB4 := Lib.hid (HB3.out.trans (hb4.mono HB3.out.size))
  have x2 := (hb4.cell (p := ⟨w.heap.size, 2, none⟩) (lt_of_cell y2)).trans y2
  clear hb4 y0 y1 y2 y3 y4
  go_wp2_with fail
  refine (HIN.out _).mono ?_
  rintro e w5 ⟨rfl, rfl⟩
  go_wp2_with fail
  refine (HUN.out _).mono ?_
  rintro e w6 ⟨rfl, hb6⟩
  have HB6 := Lib.hid (HB4.out.trans (hb6.mono HB4.out.size))
  have y2 := (hb6.cell (p := ⟨w.heap.size, 2, none⟩) (lt_of_cell x2)).trans x2
  clear hb6 x2
  go_wp2_with fail
  refine (HTX.out _ (HT.out.below HB6.out)).mono ?_
  rintro e w7 ⟨rfl, hb7⟩
  have HB7 := Lib.hid (HB6.out.trans (hb7.mono HB6.out.size))
  have x2 := (hb7.cell (p := ⟨w.heap.size, 2, none⟩) (lt_of_cell y2)).trans y2
  clear hb7 y2
  go_wp2_with fail
  refine (HTX.out _ (HT.out.below HB7.out)).mono ?_
  rintro e w8 ⟨rfl, hb8⟩
  have HB8 := Lib.hid (HB7.out.trans (hb8.mono HB7.out.size))
  have y2 := (hb8.cell (p := ⟨w.heap.size, 2, none⟩) (lt_of_cell x2)).trans x2
  clear hb8 x2
  go_wp2_with fail
  refine (HI1.out _).mono ?_
  rintro e w9 ⟨rfl, hb9⟩
  have HB9 := Lib.hid (HB8.out.trans (hb9.mono HB8.out.size))
  have x2 := (hb9.cell (p := ⟨w.heap.size, 2, none⟩) (lt_of_cell y2)).trans y2
  clear hb9 y2
  go_wp2_with fail
  refine (HI2.out _ _ (by unfold wrap64; omega)).mono ?_
  rintro e w10 ⟨rfl, hb10⟩
  have HB10 := Lib.hid (HB9.out.trans (hb10.mono HB9.out.size))
  clear hb10 x2
  go_wp2
  go_ret
  exact ⟨rfl, HB10.out⟩
set_option maxHeartbeats 8000000 in
theorem fw2 (tb : Nat → Int) (a : Option Addr) (n c : Nat) (ps : List ByteArray) (cod at' : Int) (fl : Bool) (s : ByteArray) (bd0 bd : Value) (T : ByteArray) (w : World) (hg : TypOk w) (hn : NamOk w) (ht : TabP w tb) (hs : Strs w a n ps) (hnc : n ≤ c) (hc : c ≤ 9223372036854775807)
    (hfb : fewB ps at' = true) (hsz : s.size ≤ 50)
    (hbu : ∀ W, Strs W a n ps → Calls Tryd.prog 9 #[.agg #[.bool false, .slice a n c, .int .i64 cod, .int .i64 at', .bool fl]] W fun e w' => e = .returned (.iface 48 bd0) ∧ Below W.heap.size W w')
    (hin : ∀ W, Calls Tryd.prog 16 #[.string s, .iface 48 bd0] W fun e w' => e = .returned (.iface 54 bd) ∧ W = w')
    (hun : ∀ W, Calls Tryd.prog 17 #[.iface 54 bd] W fun e w' => e = .returned (.iface 48 bd0) ∧ Below W.heap.size W w')
    (htx : ∀ W, TabP W tb → Calls Tryd.prog 62 #[bd0] W fun e w' => e = .returned (.string T) ∧ Below W.heap.size W w')
    (his1 : ∀ W, Calls Tryd.prog 18 #[.iface 54 bd, .iface 30 (.int .i64 cod)] W fun e w' => e = .returned (.bool true) ∧ Below W.heap.size W w')
    (his2 : ∀ W k, k ≠ cod → Calls Tryd.prog 18 #[.iface 54 bd, .iface 30 (.int .i64 k)] W fun e w' => e = .returned (.bool false) ∧ Below W.heap.size W w') :
    Calls Tryd.prog 6 #[.agg #[.bool false, .slice a n c, .int .i64 cod, .int .i64 at', .bool fl], .string s] w fun e w' => e = .returned (.bool true) ∧ Below w.heap.size w w' := by
  have HG := Lib.hid hg
  have HN := Lib.hid hn
  have HS := Lib.hid hs
  have HT := Lib.hid ht
  have HBU := Lib.hid hbu
  have HIN := Lib.hid hin
  have HUN := Lib.hid hun
  have HTX := Lib.hid htx
  have HI1 := Lib.hid his1
  have HI2 := Lib.hid his2
  have hl50 : decide ((50 : Int) < (s.size : Int)) = false := by simp; omega
  clear hg hn hs ht hbu hin hun htx his1 his2
  go_enter Tryd.func6, Tryd.ntmps6
  go_wp2_with fail
  obtain ⟨w1, hw1'⟩ : ∃ w1, w.alloc (.cells #[.bool false, .slice a n c, .int .i64 cod, .int .i64 at', .bool fl] 24) = w1 := ⟨_, rfl⟩
  rw [hw1']
  have HB1 := Lib.hid (show Below w.heap.size w w1 by rw [← hw1']; exact (Below.refl _ w).alloc (Nat.le_refl _) _)
  have hs1 : w1.heap.size = w.heap.size + 1 := by rw [← hw1']; simp
  have HX0 := Lib.hid (show w1.cell? ⟨w.heap.size, 0, none⟩ = some (.bool false) by rw [← hw1']; simp)
  have HX1 := Lib.hid (show w1.cell? ⟨w.heap.size, 1, none⟩ = some (.slice a n c) by rw [← hw1']; simp)
  have HX2 := Lib.hid (show w1.cell? ⟨w.heap.size, 2, none⟩ = some (.int .i64 cod) by rw [← hw1']; simp)
  have HX3 := Lib.hid (show w1.cell? ⟨w.heap.size, 3, none⟩ = some (.int .i64 at') by rw [← hw1']; simp)
  have HX4 := Lib.hid (show w1.cell? ⟨w.heap.size, 4, none⟩ = some (.bool fl) by rw [← hw1']; simp)
  clear hw1'
  refine (awake_any _ (HG.out.below HB1.out) (HN.out.below HB1.out)).mono ?_
  rintro e w2 ⟨rfl, hb2⟩
  have x0 := (hb2.cell (p := ⟨w.heap.size, 0, none⟩) (by show w.heap.size < _; omega)).trans HX0.out
  have x1 := (hb2.cell (p := ⟨w.heap.size, 1, none⟩) (by show w.heap.size < _; omega)).trans HX1.out
  have x2 := (hb2.cell (p := ⟨w.heap.size, 2, none⟩) (by show w.heap.size < _; omega)).trans HX2.out
  have x3 := (hb2.cell (p := ⟨w.heap.size, 3, none⟩) (by show w.heap.size < _; omega)).trans HX3.out
  have x4 := (hb2.cell (p := ⟨w.heap.size, 4, none⟩) (by show w.heap.size < _; omega)).trans HX4.out
  have HB2 := Lib.hid (HB1.out.trans (hb2.mono HB1.out.size))
  clear hb2
  go_wp2_with fail
  refine (few_any false a n c ps cod at' fl _ (HS.out.below HB2.out) hnc hc).mono ?_
  rintro e w3 ⟨rfl, hb3⟩
  rw [hfb]
  have HB3 := Lib.hid (HB2.out.trans (hb3.mono HB2.out.size))
  have y0 := (hb3.cell (p := ⟨w.heap.size, 0, none⟩) (lt_of_cell x0)).trans x0
  have y1 := (hb3.cell (p := ⟨w.heap.size, 1, none⟩) (lt_of_cell x1)).trans x1
  have y2 := (hb3.cell (p := ⟨w.heap.size, 2, none⟩) (lt_of_cell x2)).trans x2
  have y3 := (hb3.cell (p := ⟨w.heap.size, 3, none⟩) (lt_of_cell x3)).trans x3
  have y4 := (hb3.cell (p := ⟨w.heap.size, 4, none⟩) (lt_of_cell x4)).trans x4
  clear hb3 x0 x1 x2 x3 x4 hfb
  go_wp2_with fail
  refine (HBU.out _ (HS.out.below HB3.out)).mono ?_
  rintro e w4 ⟨rfl, hb4⟩
  have HB4 := Lib.hid (HB3.out.trans (hb4.mono HB3.out.size))
  have x2 := (hb4.cell (p := ⟨w.heap.size, 2, none⟩) (lt_of_cell y2)).trans y2
  clear hb4 y0 y1 y2 y3 y4
  go_wp2_with fail
  refine (HIN.out _).mono ?_
  rintro e w5 ⟨rfl, rfl⟩
  go_wp2_with fail
  refine (HUN.out _).mono ?_
  rintro e w6 ⟨rfl, hb6⟩
  have HB6 := Lib.hid (HB4.out.trans (hb6.mono HB4.out.size))
  have y2 := (hb6.cell (p := ⟨w.heap.size, 2, none⟩) (lt_of_cell x2)).trans x2
  clear hb6 x2
  go_wp2_with fail
  refine (HTX.out _ (HT.out.below HB6.out)).mono ?_
  rintro e w7 ⟨rfl, hb7⟩
  have HB7 := Lib.hid (HB6.out.trans (hb7.mono HB6.out.size))
  have x2 := (hb7.cell (p := ⟨w.heap.size, 2, none⟩) (lt_of_cell y2)).trans y2
  clear hb7 y2
  go_wp2_with fail
  refine (HTX.out _ (HT.out.below HB7.out)).mono ?_
  rintro e w8 ⟨rfl, hb8⟩
  have HB8 := Lib.hid (HB7.out.trans (hb8.mono HB7.out.size))
  have y2 := (hb8.cell (p := ⟨w.heap.size, 2, none⟩) (lt_of_cell x2)).trans x2
  clear hb8 x2
  go_wp2_with fail
  refine (HI1.out _).mono ?_
  rintro e w9 ⟨rfl, hb9⟩
  have HB9 := Lib.hid (HB8.out.trans (hb9.mono HB8.out.size))
  have x2 := (hb9.cell (p := ⟨w.heap.size, 2, none⟩) (lt_of_cell y2)).trans y2
  clear hb9 y2
  go_wp2_with fail
  refine (HI2.out _ _ (by unfold wrap64; omega)).mono ?_
  rintro e w10 ⟨rfl, hb10⟩
  have HB10 := Lib.hid (HB9.out.trans (hb10.mono HB9.out.size))
  clear hb10 x2
  go_wp2
  go_ret
  exact ⟨rfl, HB10.out⟩
set_option maxHeartbeats 8000000 in
theorem fw3 (tb : Nat → Int) (a : Option Addr) (n c : Nat) (ps : List ByteArray) (cod at' : Int) (fl : Bool) (s : ByteArray) (bd0 bd : Value) (T : ByteArray) (w : World) (hg : TypOk w) (hn : NamOk w) (ht : TabP w tb) (hs : Strs w a n ps) (hnc : n ≤ c) (hc : c ≤ 9223372036854775807)
    (hfb : fewB ps at' = true) (hsz : s.size ≤ 50)
    (hbu : ∀ W, Strs W a n ps → Calls Tryd.prog 9 #[.agg #[.bool false, .slice a n c, .int .i64 cod, .int .i64 at', .bool fl]] W fun e w' => e = .returned (.iface 54 bd0) ∧ Below W.heap.size W w')
    (hin : ∀ W, Calls Tryd.prog 16 #[.string s, .iface 54 bd0] W fun e w' => e = .returned (.iface 54 bd) ∧ W = w')
    (hun : ∀ W, Calls Tryd.prog 17 #[.iface 54 bd] W fun e w' => e = .returned (.iface 54 bd0) ∧ Below W.heap.size W w')
    (htx : ∀ W, TabP W tb → Calls Tryd.prog 64 #[bd0] W fun e w' => e = .returned (.string T) ∧ Below W.heap.size W w')
    (his1 : ∀ W, Calls Tryd.prog 18 #[.iface 54 bd, .iface 30 (.int .i64 cod)] W fun e w' => e = .returned (.bool true) ∧ Below W.heap.size W w')
    (his2 : ∀ W k, k ≠ cod → Calls Tryd.prog 18 #[.iface 54 bd, .iface 30 (.int .i64 k)] W fun e w' => e = .returned (.bool false) ∧ Below W.heap.size W w') :
    Calls Tryd.prog 6 #[.agg #[.bool false, .slice a n c, .int .i64 cod, .int .i64 at', .bool fl], .string s] w fun e w' => e = .returned (.bool true) ∧ Below w.heap.size w w' := by
  have HG := Lib.hid hg
  have HN := Lib.hid hn
  have HS := Lib.hid hs
  have HT := Lib.hid ht
  have HBU := Lib.hid hbu
  have HIN := Lib.hid hin
  have HUN := Lib.hid hun
  have HTX := Lib.hid htx
  have HI1 := Lib.hid his1
  have HI2 := Lib.hid his2
  have hl50 : decide ((50 : Int) < (s.size : Int)) = false := by simp; omega
  clear hg hn hs ht hbu hin hun htx his1 his2
  go_enter Tryd.func6, Tryd.ntmps6
  go_wp2_with fail
  obtain ⟨w1, hw1'⟩ : ∃ w1, w.alloc (.cells #[.bool false, .slice a n c, .int .i64 cod, .int .i64 at', .bool fl] 24) = w1 := ⟨_, rfl⟩
  rw [hw1']
  have HB1 := Lib.hid (show Below w.heap.size w w1 by rw [← hw1']; exact (Below.refl _ w).alloc (Nat.le_refl _) _)
  have hs1 : w1.heap.size = w.heap.size + 1 := by rw [← hw1']; simp
  have HX0 := Lib.hid (show w1.cell? ⟨w.heap.size, 0, none⟩ = some (.bool false) by rw [← hw1']; simp)
  have HX1 := Lib.hid (show w1.cell? ⟨w.heap.size, 1, none⟩ = some (.slice a n c) by rw [← hw1']; simp)
  have HX2 := Lib.hid (show w1.cell? ⟨w.heap.size, 2, none⟩ = some (.int .i64 cod) by rw [← hw1']; simp)
  have HX3 := Lib.hid (show w1.cell? ⟨w.heap.size, 3, none⟩ = some (.int .i64 at') by rw [← hw1']; simp)
  have HX4 := Lib.hid (show w1.cell? ⟨w.heap.size, 4, none⟩ = some (.bool fl) by rw [← hw1']; simp)
  clear hw1'
  refine (awake_any _ (HG.out.below HB1.out) (HN.out.below HB1.out)).mono ?_
  rintro e w2 ⟨rfl, hb2⟩
  have x0 := (hb2.cell (p := ⟨w.heap.size, 0, none⟩) (by show w.heap.size < _; omega)).trans HX0.out
  have x1 := (hb2.cell (p := ⟨w.heap.size, 1, none⟩) (by show w.heap.size < _; omega)).trans HX1.out
  have x2 := (hb2.cell (p := ⟨w.heap.size, 2, none⟩) (by show w.heap.size < _; omega)).trans HX2.out
  have x3 := (hb2.cell (p := ⟨w.heap.size, 3, none⟩) (by show w.heap.size < _; omega)).trans HX3.out
  have x4 := (hb2.cell (p := ⟨w.heap.size, 4, none⟩) (by show w.heap.size < _; omega)).trans HX4.out
  have HB2 := Lib.hid (HB1.out.trans (hb2.mono HB1.out.size))
  clear hb2
  go_wp2_with fail
  refine (few_any false a n c ps cod at' fl _ (HS.out.below HB2.out) hnc hc).mono ?_
  rintro e w3 ⟨rfl, hb3⟩
  rw [hfb]
  have HB3 := Lib.hid (HB2.out.trans (hb3.mono HB2.out.size))
  have y0 := (hb3.cell (p := ⟨w.heap.size, 0, none⟩) (lt_of_cell x0)).trans x0
  have y1 := (hb3.cell (p := ⟨w.heap.size, 1, none⟩) (lt_of_cell x1)).trans x1
  have y2 := (hb3.cell (p := ⟨w.heap.size, 2, none⟩) (lt_of_cell x2)).trans x2
  have y3 := (hb3.cell (p := ⟨w.heap.size, 3, none⟩) (lt_of_cell x3)).trans x3
  have y4 := (hb3.cell (p := ⟨w.heap.size, 4, none⟩) (lt_of_cell x4)).trans x4
  clear hb3 x0 x1 x2 x3 x4 hfb
  go_wp2_with fail
  refine (HBU.out _ (HS.out.below HB3.out)).mono ?_
  rintro e w4 ⟨rfl, hb4⟩
  have HB4 := Lib.hid (HB3.out.trans (hb4.mono HB3.out.size))
  have x2 := (hb4.cell (p := ⟨w.heap.size, 2, none⟩) (lt_of_cell y2)).trans y2
  clear hb4 y0 y1 y2 y3 y4
  go_wp2_with fail
  refine (HIN.out _).mono ?_
  rintro e w5 ⟨rfl, rfl⟩
  go_wp2_with fail
  refine (HUN.out _).mono ?_
  rintro e w6 ⟨rfl, hb6⟩
  have HB6 := Lib.hid (HB4.out.trans (hb6.mono HB4.out.size))
  have y2 := (hb6.cell (p := ⟨w.heap.size, 2, none⟩) (lt_of_cell x2)).trans x2
  clear hb6 x2
  go_wp2_with fail
  refine (HTX.out _ (HT.out.below HB6.out)).mono ?_
  rintro e w7 ⟨rfl, hb7⟩
  have HB7 := Lib.hid (HB6.out.trans (hb7.mono HB6.out.size))
  have x2 := (hb7.cell (p := ⟨w.heap.size, 2, none⟩) (lt_of_cell y2)).trans y2
  clear hb7 y2
  go_wp2_with fail
  refine (HTX.out _ (HT.out.below HB7.out)).mono ?_
  rintro e w8 ⟨rfl, hb8⟩
  have HB8 := Lib.hid (HB7.out.trans (hb8.mono HB7.out.size))
  have y2 := (hb8.cell (p := ⟨w.heap.size, 2, none⟩) (lt_of_cell x2)).trans x2
  clear hb8 x2
  go_wp2_with fail
  refine (HI1.out _).mono ?_
  rintro e w9 ⟨rfl, hb9⟩
  have HB9 := Lib.hid (HB8.out.trans (hb9.mono HB8.out.size))
  have x2 := (hb9.cell (p := ⟨w.heap.size, 2, none⟩) (lt_of_cell y2)).trans y2
  clear hb9 y2
  go_wp2_with fail
  refine (HI2.out _ _ (by unfold wrap64; omega)).mono ?_
  rintro e w10 ⟨rfl, hb10⟩
  have HB10 := Lib.hid (HB9.out.trans (hb10.mono HB9.out.size))
  clear hb10 x2
  go_wp2
  go_ret
  exact ⟨rfl, HB10.out⟩
set_option maxHeartbeats 8000000 in
theorem fwOut (ni : Bool) (a : Option Addr) (n c : Nat) (ps : List ByteArray) (cod at' : Int) (fl : Bool) (s : ByteArray) (w : World) (hg : TypOk w) (hn : NamOk w) (hs : Strs w a n ps) (hnc : n ≤ c) (hc : c ≤ 9223372036854775807)
    (hno : fewB ps at' = false ∨ ni = true ∨ 50 < s.size) :
    Calls Tryd.prog 6 #[.agg #[.bool ni, .slice a n c, .int .i64 cod, .int .i64 at', .bool fl], .string s] w fun e w' => e = .returned (.bool true) ∧ Below w.heap.size w w' := by
  have HG := Lib.hid hg
  have HN := Lib.hid hn
  have HS := Lib.hid hs
  have HNO := Lib.hid hno
  clear hg hn hs hno
  go_enter Tryd.func6, Tryd.ntmps6
  go_wp2_with fail
  obtain ⟨w1, hw1'⟩ : ∃ w1, w.alloc (.cells #[.bool ni, .slice a n c, .int .i64 cod, .int .i64 at', .bool fl] 24) = w1 := ⟨_, rfl⟩
  rw [hw1']
  have HB1 := Lib.hid (show Below w.heap.size w w1 by rw [← hw1']; exact (Below.refl _ w).alloc (Nat.le_refl _) _)
  have hs1 : w1.heap.size = w.heap.size + 1 := by rw [← hw1']; simp
  have HX0 := Lib.hid (show w1.cell? ⟨w.heap.size, 0, none⟩ = some (.bool ni) by rw [← hw1']; simp)
  have HX1 := Lib.hid (show w1.cell? ⟨w.heap.size, 1, none⟩ = some (.slice a n c) by rw [← hw1']; simp)
  have HX2 := Lib.hid (show w1.cell? ⟨w.heap.size, 2, none⟩ = some (.int .i64 cod) by rw [← hw1']; simp)
  have HX3 := Lib.hid (show w1.cell? ⟨w.heap.size, 3, none⟩ = some (.int .i64 at') by rw [← hw1']; simp)
  have HX4 := Lib.hid (show w1.cell? ⟨w.heap.size, 4, none⟩ = some (.bool fl) by rw [← hw1']; simp)
  clear hw1'
  refine (awake_any _ (HG.out.below HB1.out) (HN.out.below HB1.out)).mono ?_
  rintro e w2 ⟨rfl, hb2⟩
  have x0 := (hb2.cell (p := ⟨w.heap.size, 0, none⟩) (by show w.heap.size < _; omega)).trans HX0.out
  have x1 := (hb2.cell (p := ⟨w.heap.size, 1, none⟩) (by show w.heap.size < _; omega)).trans HX1.out
  have x2 := (hb2.cell (p := ⟨w.heap.size, 2, none⟩) (by show w.heap.size < _; omega)).trans HX2.out
  have x3 := (hb2.cell (p := ⟨w.heap.size, 3, none⟩) (by show w.heap.size < _; omega)).trans HX3.out
  have x4 := (hb2.cell (p := ⟨w.heap.size, 4, none⟩) (by show w.heap.size < _; omega)).trans HX4.out
  have HB2 := Lib.hid (HB1.out.trans (hb2.mono HB1.out.size))
  clear hb2
  go_wp2_with fail
  refine (few_any ni a n c ps cod at' fl _ (HS.out.below HB2.out) hnc hc).mono ?_
  rintro e w3 ⟨rfl, hb3⟩
  have HB3 := Lib.hid (HB2.out.trans (hb3.mono HB2.out.size))
  have y0 := (hb3.cell (p := ⟨w.heap.size, 0, none⟩) (lt_of_cell x0)).trans x0
  clear hb3 x0 x1 x2 x3 x4
  cases hfb : fewB ps at' with
  | false =>
    clear hfb
    go_wp2_with fail
    refine (awake_any _ (HG.out.below HB3.out) (HN.out.below HB3.out)).mono ?_
    rintro e w4 ⟨rfl, hb4⟩
    have HB4 := Lib.hid (HB3.out.trans (hb4.mono HB3.out.size))
    clear hb4
    go_wp2
    go_ret
    exact ⟨rfl, HB4.out⟩
  | true =>
    cases ni with
    | true =>
      clear hfb
      go_wp2_with fail
      refine (awake_any _ (HG.out.below HB3.out) (HN.out.below HB3.out)).mono ?_
      rintro e w4 ⟨rfl, hb4⟩
      have HB4 := Lib.hid (HB3.out.trans (hb4.mono HB3.out.size))
      clear hb4
      go_wp2
      go_ret
      exact ⟨rfl, HB4.out⟩
    | false =>
      have hl50 : decide ((50 : Int) < (s.size : Int)) = true := by
        have := HNO.out
        rw [hfb] at this
        simp at this
        simp; omega
      clear hfb
      go_wp2_with fail
      refine (awake_any _ (HG.out.below HB3.out) (HN.out.below HB3.out)).mono ?_
      rintro e w4 ⟨rfl, hb4⟩
      have HB4 := Lib.hid (HB3.out.trans (hb4.mono HB3.out.size))
      clear hb4
      go_wp2
      go_ret
      exact ⟨rfl, HB4.out⟩

theorem text_wrapE (tb : Nat → Int) (k : Nat) : ∀ (ps : List ByteArray) (e : EV), (∀ p, p ∈ ps → p.size ≤ 50) → (e.text tb).size ≤ k → ((wrapE e ps).text tb).size ≤ k + 52 * ps.length
  | [], e, _, h => h
  | p :: ps, e, hp, h => by
    have h1 : ((EV.inn p e).text tb).size ≤ k + 52 := by
      show (p ++ ⟨#[58, 32]⟩ ++ e.text tb).size ≤ _
      rw [ByteArray.size_append, ByteArray.size_append]
      have := hp p (by simp)
      show p.size + 2 + _ ≤ _
      omega
    have := text_wrapE tb (k + 52) ps (.inn p e) (fun q hq => hp q (by simp [hq])) h1
    show ((wrapE (.inn p e) ps).text tb).size ≤ _
    simp only [List.length_cons]
    omega
theorem text_base (tb : Nat → Int) (cod at' : Int) (fl : Bool) : ((baseE cod at' fl).text tb).size ≤ 27 := by
  have h := txt_size tb cod
  cases fl
  all_goals (show (ByteArray.mk #[101, 114, 114, 111, 114, 32] ++ txt tb cod).size ≤ 27; rw [ByteArray.size_append]; show 6 + _ ≤ _; omega)
theorem few_sz {ps : List ByteArray} {at' : Int} (h : fewB ps at' = true) : (∀ p, p ∈ ps → p.size ≤ 50) ∧ ps.length ≤ 20 := by
  simp [fewB] at h
  exact ⟨h.1, h.2.1⟩

theorem walk_FaultWraps (ni : Bool) (a : Option Addr) (n c : Nat) (ps : List ByteArray) (cod at' : Int) (fl : Bool) (s : ByteArray) (w : World) (hsh : w.ShapedOpen Tryd.prog) (hg : TypOk w) (hn : NamOk w) (hs : Strs w a n ps) (hnc : n ≤ c) (hc : c ≤ 9223372036854775807)
    (hk0 : -9223372036854775808 ≤ cod) (hk1 : cod ≤ 9223372036854775807) :
    Calls Tryd.prog 6 #[.agg #[.bool ni, .slice a n c, .int .i64 cod, .int .i64 at', .bool fl], .string s] w fun e w' => e = .returned (.bool true) ∧ Below w.heap.size w w' := by
  by_cases hno : fewB ps at' = false ∨ ni = true ∨ 50 < s.size
  · exact fwOut ni a n c ps cod at' fl s w hg hn hs hnc hc hno
  · simp only [not_or, Bool.not_eq_false, Bool.not_eq_true, Nat.not_lt] at hno
    obtain ⟨hfb, rfl, hsz⟩ := hno
    obtain ⟨tb, ht⟩ := tab_of_shape hsh
    obtain ⟨hp50, hp20⟩ := few_sz hfb
    have hbu := fun W (h : Strs W a n ps) => build_any a n c ps cod at' fl W h hnc hc
    have hcod : (wrapE (baseE cod at' fl) ps).cod = cod := by rw [wrapE_cod, baseE_cod]
    have htxs : ((wrapE (baseE cod at' fl) ps).text tb).size ≤ 1000000 := by
      have := text_wrapE tb 27 ps (baseE cod at' fl) hp50 (text_base tb cod at' fl)
      omega
    generalize wrapE (baseE cod at' fl) ps = E at *
    have hin := fun W => in_any s E W
    have hun := fun W => unwrap_inn s E W
    have htx := fun W (h : TabP W tb) => text_any tb E W h (by omega) (by omega) htxs
    have his1 : ∀ W, Calls Tryd.prog 18 #[.iface (EV.inn s E).ty (EV.inn s E).body, .iface 30 (.int .i64 cod)] W fun e w' => e = .returned (.bool true) ∧ Below W.heap.size W w' := fun W => (is_any (EV.inn s E) cod W).mono fun e w' ⟨h1, h2⟩ => ⟨by rw [h1]; rw [show (EV.inn s E).cod = cod from hcod]; simp, h2⟩
    have his2 : ∀ W k, k ≠ cod → Calls Tryd.prog 18 #[.iface (EV.inn s E).ty (EV.inn s E).body, .iface 30 (.int .i64 k)] W fun e w' => e = .returned (.bool false) ∧ Below W.heap.size W w' := fun W k hk => (is_any (EV.inn s E) k W).mono fun e w' ⟨h1, h2⟩ => ⟨by rw [h1, show (EV.inn s E).cod = cod from hcod, show (cod == k) = false from by simpa using fun h => hk h.symm], h2⟩
    cases E with
    | code _ => exact fw1 tb a n c ps cod at' fl s _ _ _ w hg hn ht hs hnc hc hfb hsz hbu hin hun htx his1 his2
    | flt _ _ => exact fw2 tb a n c ps cod at' fl s _ _ _ w hg hn ht hs hnc hc hfb hsz hbu hin hun htx his1 his2
    | inn _ _ => exact fw3 tb a n c ps cod at' fl s _ _ _ w hg hn ht hs hnc hc hfb hsz hbu hin hun htx his1 his2
end Go.Proofs.YtlaofaopajcfkaaDoor

/- What the rows' list and the world's shape give of the library's variables. -/
import Derived.Test.YtmncmbbgdkkgaaaGreatDoorAd17
import Derived.Lib.LaidTab
namespace Go.Proofs.YtmncmbbgdkkgaaaGreatDoor
set_option maxRecDepth 100000
set_option linter.unusedVariables false
open Go.RowKit

theorem ml_begin : ((begin Tryz.prog (fun _ _ => 0) default).world.heap[0]?).bind Obj.row? = some (#[.int .i64 0], 3) := by kernel_rfl
theorem int_types : Tryz.prog.cellTypes Tryz.prog.depth 3 = some [3] := by kernel_rfl
theorem one_of_shape {W : World} (h : W.ShapedOpen Tryz.prog) {g : Nat} {z : Value} {t : TypeId} (hg : g < Tryz.prog.globals.size) (hb : ((begin Tryz.prog (fun _ _ => 0) default).world.heap[g]?).bind Obj.row? = some (#[z], t)) (hc : Tryz.prog.cellTypes Tryz.prog.depth t = some [t]) (hk : Tryz.prog.buildable t = true) :
    ∃ v, W.cell? ⟨g, 0, none⟩ = some v ∧ Cell.ok Tryz.prog W Reach.any 0 t v := by
  obtain ⟨cs, hh, hs, hr⟩ := h.1 g _ _ (by exact hg) hb
  obtain ⟨ts, hts, _, hall⟩ := hr hk
  rw [hc] at hts
  obtain rfl := (Option.some.inj hts).symm
  have h1 : cs.size = 1 := by simpa using hs
  obtain ⟨u, hu, hok⟩ := hall 0 cs[0] (by simp [h1])
  obtain rfl : t = u := by simpa using hu
  exact ⟨cs[0], by simp [World.cell?, hh, h1], hok⟩
theorem iface_cells {H : Type} {enc : TypeId × Value → H} {P : Program} {w : World} {base : Nat} {spare : Nat → Bool} {held : Bool} {fuel : Nat} {t : TypeId} {cs : List Value} {ms} {x : DataW H × List MemPlace}
    (ht : P.underlying t = some (.interface ms)) (h : DataW.trod enc P w base spare held fuel t cs = some x) : cs = [.nilIface] ∨ ∃ u v, cs = [.iface u v] := by
  cases fuel with
  | zero => simp [DataW.trod] at h
  | succ fuel =>
    unfold DataW.trod at h
    rw [ht] at h
    split at h
    all_goals simp_all
theorem err_cell {W : World} {n : String} {g : Nat} {cs : Array Value} {fuel : Nat} {d : DataW Unit} {p : List MemPlace} (hg : Tryz.prog.globalNamed n = some g) (hv : W.var? Tryz.prog n = some cs)
    (hd : DataW.trod (fun _ => ()) Tryz.prog W 0 (fun _ => true) false fuel 52 cs.toList = some (d, p)) : ∃ v, W.cell? ⟨g, 0, none⟩ = some v ∧ IsErr v := by
  have hc := World.var?_cell hg hv 0
  rcases iface_cells Tryz.underlying52 hd with h | ⟨u, v, h⟩
  · refine ⟨.nilIface, ?_, .inl rfl⟩
    rw [hc, ← Array.getElem?_toList, h]; rfl
  · refine ⟨.iface u v, ?_, .inr ⟨u, v, rfl⟩⟩
    rw [hc, ← Array.getElem?_toList, h]; rfl
theorem glob_of {W : World} (hs : W.ShapedOpen Tryz.prog)
    (h : laidMetH Tryz.prog [("math/bits.deBruijn32tab", Rows.laid_math_bits_deBruijn32tab), ("math/bits.deBruijn64tab", Rows.laid_math_bits_deBruijn64tab), ("internal/strconv.uint64pow10", Rows.laid_internal_strconv_uint64pow10), ("unicode/utf8.acceptRanges", Rows.laid_unicode_utf8_acceptRanges), ("strconv.ErrRange", Rows.laid_strconv_ErrRange), ("strconv.ErrSyntax", Rows.laid_strconv_ErrSyntax), ("unicode/utf8.first", Rows.laid_unicode_utf8_first)] W) : Glob W := by
  have h' : laidMet Tryz.prog [("math/bits.deBruijn32tab", Rows.laid_math_bits_deBruijn32tab), ("math/bits.deBruijn64tab", Rows.laid_math_bits_deBruijn64tab), ("internal/strconv.uint64pow10", Rows.laid_internal_strconv_uint64pow10), ("unicode/utf8.acceptRanges", Rows.laid_unicode_utf8_acceptRanges), ("strconv.ErrRange", Rows.laid_strconv_ErrRange), ("strconv.ErrSyntax", Rows.laid_strconv_ErrSyntax), ("unicode/utf8.first", Rows.laid_unicode_utf8_first)] W := h
  obtain ⟨ps, ⟨g1, t1, cs1, f1, p1, q1, hg1, ht1, hv1, hd1, ⟨g2, t2, cs2, f2, p2, q2, hg2, ht2, hv2, hd2, ⟨g3, t3, cs3, f3, p3, q3, hg3, ht3, hv3, hd3, ⟨g4, t4, cs4, f4, p4, q4, hg4, ht4, hv4, hd4, ⟨g5, t5, cs5, f5, p5, q5, hg5, ht5, hv5, hd5, ⟨g6, t6, cs6, f6, p6, q6, hg6, ht6, hv6, hd6, _⟩, _⟩, _⟩, _⟩, _⟩, _⟩, _⟩ := h'
  refine ⟨?_, ?_, ?_, ?_, ?_⟩
  · obtain rfl := Option.some.inj (gTab.symm.trans hg3)
    have hty : (Tryz.prog.globals[3]?).map (·.type) = some 134 := by kernel_rfl
    obtain rfl := Option.some.inj (hty.symm.trans ht3)
    unfold Tab10 Lib.TabIs
    rw [hv3]
    have hd : Rows.laid_internal_strconv_uint64pow10 (H := Unit) = Lib.tabData .u64 Lib.pow10Tab := rfl
    rw [hd] at hd3
    rw [← Lib.cells_of_tab Tryz.underlying134 Tryz.underlying50 (by kernel_rfl) (by kernel_rfl) hd3]
  · obtain ⟨v, hv, hok⟩ := one_of_shape hs (by decide +kernel) ml_begin int_types (by kernel_rfl)
    simp only [Cell.ok, Tryz.underlying3] at hok
    cases v <;> simp_all
  · have hty : (Tryz.prog.globals[1]?).map (·.type) = some 52 := by kernel_rfl
    have hgn : Tryz.prog.globalNamed "strconv.ErrSyntax" = some 1 := by kernel_rfl
    obtain rfl := Option.some.inj (hgn.symm.trans hg6)
    obtain rfl := Option.some.inj (hty.symm.trans ht6)
    exact err_cell hgn hv6 hd6
  · have hty : (Tryz.prog.globals[2]?).map (·.type) = some 52 := by kernel_rfl
    have hgn : Tryz.prog.globalNamed "strconv.ErrRange" = some 2 := by kernel_rfl
    obtain rfl := Option.some.inj (hgn.symm.trans hg5)
    obtain rfl := Option.some.inj (hty.symm.trans ht5)
    exact err_cell hgn hv5 hd5
  · have hty : (Tryz.prog.globals[7]?).map (·.type) = some 159 := by kernel_rfl
    have hgn : Tryz.prog.globalNamed "math/bits.deBruijn64tab" = some 7 := by kernel_rfl
    obtain rfl := Option.some.inj (hgn.symm.trans hg2)
    obtain rfl := Option.some.inj (hty.symm.trans ht2)
    have hd : Rows.laid_math_bits_deBruijn64tab (H := Unit) = Lib.tabData .u8 [0, 1, 56, 2, 57, 49, 28, 3, 61, 58, 42, 50, 38, 29, 17, 4, 62, 47, 59, 36, 45, 43, 51, 22, 53, 39, 33, 30, 24, 18, 12, 5, 63, 55, 48, 27, 60, 41, 37, 16, 46, 35, 44, 21, 52, 32, 23, 11, 54, 26, 40, 15, 34, 20, 31, 10, 25, 14, 19, 9, 13, 8, 7, 6] := rfl
    rw [hd] at hd2
    have hc := Lib.cells_of_tab Tryz.underlying159 Tryz.underlying5 (by kernel_rfl) (by kernel_rfl) hd2
    have h15 := World.var?_cell hgn hv2 15
    rw [h15, ← Array.getElem?_toList, hc]
    rfl
end Go.Proofs.YtmncmbbgdkkgaaaGreatDoor

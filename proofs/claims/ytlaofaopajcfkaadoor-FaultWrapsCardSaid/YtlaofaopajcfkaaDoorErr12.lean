/- What the rows' condition gives: errors.errorType and the names. -/
import Derived.Test.YtlaofaopajcfkaaDoorErr11
import Derived.LaidLaws
import Derived.LaidHandle
import Derived.OpenShut
import Derived.ShutString
namespace Go.Proofs.YtlaofaopajcfkaaDoor
open Go.RowKit

theorem gTyp : Tryd.prog.globalNamed "errors.errorType" = some 1 := by kernel_rfl
theorem gNam : Tryd.prog.globalNamed "wharf/fault.names" = some 0 := by kernel_rfl
theorem tNam : (Tryd.prog.globals[0]?).map (·.type) = some 52 := by kernel_rfl
theorem rType : (Tryd.prog.cutTypes.find? (·.1 == "internal/reflectlite.rtype")).map (·.2) = some 73 := by kernel_rfl
theorem tySize : Tryd.prog.types.size = 132 := by kernel_rfl
theorem oneRow : ((List.range 132).filter fun t => Tryd.prog.rowNamed t [101, 114, 114, 111, 114]) = [28] := by kernel_rfl
theorem cellsOfStr : Tryd.prog.cellsOf 9 = 1 := by kernel_rfl

theorem cut_one {cs : List Value} {i : Nat} {v : Value} (h : (cs.drop (i * 1)).take 1 = [v]) : cs[i]? = some v := by
  have := congrArg (·[0]?) h
  simpa [List.getElem?_take, List.getElem?_drop] using this
theorem at_fst {α β : Type} {xs : List (α × β)} {ys : List α} (h : ys = xs.map (·.1)) {i : Nat} {y : α} (hy : ys[i]? = some y) : ∃ q, xs[i]? = some (y, q) := by
  rw [h, List.getElem?_map] at hy
  obtain ⟨⟨a, b⟩, h1, rfl⟩ := Option.map_eq_some_iff.1 hy
  exact ⟨b, h1⟩
theorem str_of {z : List UInt8} {s : ByteArray} (h : z = s.data.toList) : s = ⟨z.toArray⟩ := by rw [h]
set_option maxRecDepth 100000 in
theorem name_cells {H : Type} {enc : TypeId × Value → H} {w : World} {base : Nat} {sp : Nat → Bool} {held : Bool} {fuel : Nat} {cs : List Value} {p : List MemPlace}
    (h : DataW.trod enc Tryd.prog w base sp held fuel 52 cs = some (Rows.laid_wharf_fault_names, p)) (i : Nat) (hi : i < 13) : cs[i]? = some (.string (nam i)) := by
  obtain ⟨xs, m, rfl, hx, _, _, hel⟩ := DataW.trod_array Tryd.underlying52 h
  simp only [Rows.laid_wharf_fault_names, Prod.mk.injEq, DataW.agg.injEq] at hx
  have h2 := hel i hi
  have hcs : i = 0 ∨ i = 1 ∨ i = 2 ∨ i = 3 ∨ i = 4 ∨ i = 5 ∨ i = 6 ∨ i = 7 ∨ i = 8 ∨ i = 9 ∨ i = 10 ∨ i = 11 ∨ i = 12 := by omega
  rcases hcs with rfl | rfl | rfl | rfl | rfl | rfl | rfl | rfl | rfl | rfl | rfl | rfl | rfl
  · obtain ⟨q, hq⟩ := at_fst (i := 0) hx.1 rfl
    rw [hq, cellsOfStr] at h2
    obtain ⟨s, hc, hx2, _⟩ := DataW.trod_string Tryd.underlying9 h2
    simp only [Prod.mk.injEq, DataW.lit.injEq, Lit.string.injEq] at hx2
    have e := str_of hx2.1
    rw [e] at hc
    exact cut_one hc
  · obtain ⟨q, hq⟩ := at_fst (i := 1) hx.1 rfl
    rw [hq, cellsOfStr] at h2
    obtain ⟨s, hc, hx2, _⟩ := DataW.trod_string Tryd.underlying9 h2
    simp only [Prod.mk.injEq, DataW.lit.injEq, Lit.string.injEq] at hx2
    have e := str_of hx2.1
    rw [e] at hc
    exact cut_one hc
  · obtain ⟨q, hq⟩ := at_fst (i := 2) hx.1 rfl
    rw [hq, cellsOfStr] at h2
    obtain ⟨s, hc, hx2, _⟩ := DataW.trod_string Tryd.underlying9 h2
    simp only [Prod.mk.injEq, DataW.lit.injEq, Lit.string.injEq] at hx2
    have e := str_of hx2.1
    rw [e] at hc
    exact cut_one hc
  · obtain ⟨q, hq⟩ := at_fst (i := 3) hx.1 rfl
    rw [hq, cellsOfStr] at h2
    obtain ⟨s, hc, hx2, _⟩ := DataW.trod_string Tryd.underlying9 h2
    simp only [Prod.mk.injEq, DataW.lit.injEq, Lit.string.injEq] at hx2
    have e := str_of hx2.1
    rw [e] at hc
    exact cut_one hc
  · obtain ⟨q, hq⟩ := at_fst (i := 4) hx.1 rfl
    rw [hq, cellsOfStr] at h2
    obtain ⟨s, hc, hx2, _⟩ := DataW.trod_string Tryd.underlying9 h2
    simp only [Prod.mk.injEq, DataW.lit.injEq, Lit.string.injEq] at hx2
    have e := str_of hx2.1
    rw [e] at hc
    exact cut_one hc
  · obtain ⟨q, hq⟩ := at_fst (i := 5) hx.1 rfl
    rw [hq, cellsOfStr] at h2
    obtain ⟨s, hc, hx2, _⟩ := DataW.trod_string Tryd.underlying9 h2
    simp only [Prod.mk.injEq, DataW.lit.injEq, Lit.string.injEq] at hx2
    have e := str_of hx2.1
    rw [e] at hc
    exact cut_one hc
  · obtain ⟨q, hq⟩ := at_fst (i := 6) hx.1 rfl
    rw [hq, cellsOfStr] at h2
    obtain ⟨s, hc, hx2, _⟩ := DataW.trod_string Tryd.underlying9 h2
    simp only [Prod.mk.injEq, DataW.lit.injEq, Lit.string.injEq] at hx2
    have e := str_of hx2.1
    rw [e] at hc
    exact cut_one hc
  · obtain ⟨q, hq⟩ := at_fst (i := 7) hx.1 rfl
    rw [hq, cellsOfStr] at h2
    obtain ⟨s, hc, hx2, _⟩ := DataW.trod_string Tryd.underlying9 h2
    simp only [Prod.mk.injEq, DataW.lit.injEq, Lit.string.injEq] at hx2
    have e := str_of hx2.1
    rw [e] at hc
    exact cut_one hc
  · obtain ⟨q, hq⟩ := at_fst (i := 8) hx.1 rfl
    rw [hq, cellsOfStr] at h2
    obtain ⟨s, hc, hx2, _⟩ := DataW.trod_string Tryd.underlying9 h2
    simp only [Prod.mk.injEq, DataW.lit.injEq, Lit.string.injEq] at hx2
    have e := str_of hx2.1
    rw [e] at hc
    exact cut_one hc
  · obtain ⟨q, hq⟩ := at_fst (i := 9) hx.1 rfl
    rw [hq, cellsOfStr] at h2
    obtain ⟨s, hc, hx2, _⟩ := DataW.trod_string Tryd.underlying9 h2
    simp only [Prod.mk.injEq, DataW.lit.injEq, Lit.string.injEq] at hx2
    have e := str_of hx2.1
    rw [e] at hc
    exact cut_one hc
  · obtain ⟨q, hq⟩ := at_fst (i := 10) hx.1 rfl
    rw [hq, cellsOfStr] at h2
    obtain ⟨s, hc, hx2, _⟩ := DataW.trod_string Tryd.underlying9 h2
    simp only [Prod.mk.injEq, DataW.lit.injEq, Lit.string.injEq] at hx2
    have e := str_of hx2.1
    rw [e] at hc
    exact cut_one hc
  · obtain ⟨q, hq⟩ := at_fst (i := 11) hx.1 rfl
    rw [hq, cellsOfStr] at h2
    obtain ⟨s, hc, hx2, _⟩ := DataW.trod_string Tryd.underlying9 h2
    simp only [Prod.mk.injEq, DataW.lit.injEq, Lit.string.injEq] at hx2
    have e := str_of hx2.1
    rw [e] at hc
    exact cut_one hc
  · obtain ⟨q, hq⟩ := at_fst (i := 12) hx.1 rfl
    rw [hq, cellsOfStr] at h2
    obtain ⟨s, hc, hx2, _⟩ := DataW.trod_string Tryd.underlying9 h2
    simp only [Prod.mk.injEq, DataW.lit.injEq, Lit.string.injEq] at hx2
    have e := str_of hx2.1
    rw [e] at hc
    exact cut_one hc
theorem laid_of {W : World} (h : laidMetH Tryd.prog [("errors.errorType", Rows.laid_errors_errorType), ("wharf/fault.names", Rows.laid_wharf_fault_names)] W) : TypOk W ∧ NamOk W := by
  have h' : laidMet Tryd.prog [("wharf/fault.names", Rows.laid_wharf_fault_names)] W ∧ handlesMet Tryd.prog [("errors.errorType", Rows.laid_errors_errorType)] W := h
  refine ⟨?_, ?_⟩
  · obtain ⟨name, u, ty, e1, e2, e3, e4, e5⟩ := h'.2 _ (List.mem_singleton.2 rfl)
    have en : name = [101, 114, 114, 111, 114] := (Option.some.inj e1).symm
    subst en
    obtain rfl := Option.some.inj (rType.symm.trans e2)
    have hm : ty ∈ (List.range 132).filter fun t => Tryd.prog.rowNamed t [101, 114, 114, 111, 114] := List.mem_filter.2 ⟨List.mem_range.2 (by rw [← tySize]; exact e3), e4⟩
    rw [oneRow] at hm
    obtain rfl := List.mem_singleton.1 hm
    have hh : typeHandle Tryd.prog 28 = .pointer (some ⟨5, 28, none⟩) := by kernel_rfl
    rw [hh] at e5
    simpa [TypOk] using World.var?_cell gTyp e5 0
  · obtain ⟨ps, ⟨g1, t1, cs1, fuel1, p1, q1, hg1, ht1, hvar1, hd1, _⟩, _⟩ := h'.1
    obtain rfl := Option.some.inj (gNam.symm.trans hg1)
    obtain rfl := Option.some.inj (tNam.symm.trans ht1)
    intro i hi
    have c := name_cells hd1 i hi
    have e := fun j => World.var?_cell gNam hvar1 j
    rw [e]
    simpa using c
end Go.Proofs.YtlaofaopajcfkaaDoor

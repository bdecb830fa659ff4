/- The two tables of package kind as plain data, and what the row's condition says of memory. -/
import Derived.Test.YtoioindpmgkefaaDoorBase
import Derived.Lib.LaidTab
import Derived.MakeChecks
import Derived.OpenShut
namespace Go.Proofs.YtoioindpmgkefaaDoor
open Go.RowKit

/-- a form of the table -/
structure KRow where
  ty : Int
  name : List UInt8
  mask : Int
  least : Int
  most : Int
  unit : Int
  kids : Int
def KT : List KRow := [⟨0, [100, 97, 116, 97], 15, 13, 65531, 1, 0⟩,
  ⟨1, [105, 110, 105, 116], 0, 16, 16, 1, 2⟩,
  ⟨2, [105, 110, 105, 116, 45, 97, 99, 107], 0, 16, 16, 1, 2⟩,
  ⟨3, [115, 97, 99, 107], 0, 12, 65531, 4, 0⟩,
  ⟨4, [104, 101, 97, 114, 116, 98, 101, 97, 116], 0, 0, 0, 1, 1⟩,
  ⟨5, [104, 101, 97, 114, 116, 98, 101, 97, 116, 45, 97, 99, 107], 0, 0, 0, 1, 1⟩,
  ⟨6, [97, 98, 111, 114, 116], 1, 0, 0, 1, 3⟩,
  ⟨7, [115, 104, 117, 116, 100, 111, 119, 110], 0, 4, 4, 1, 0⟩,
  ⟨8, [115, 104, 117, 116, 100, 111, 119, 110, 45, 97, 99, 107], 0, 0, 0, 1, 0⟩,
  ⟨9, [101, 114, 114, 111, 114], 0, 0, 0, 1, 4⟩,
  ⟨10, [99, 111, 111, 107, 105, 101, 45, 101, 99, 104, 111], 0, 1, 65531, 1, 0⟩,
  ⟨11, [99, 111, 111, 107, 105, 101, 45, 97, 99, 107], 0, 0, 0, 1, 0⟩,
  ⟨12, [101, 99, 110, 101], 0, 4, 4, 1, 0⟩,
  ⟨13, [99, 119, 114], 0, 4, 4, 1, 0⟩,
  ⟨14, [115, 104, 117, 116, 100, 111, 119, 110, 45, 99, 111, 109, 112, 108, 101, 116, 101], 1, 0, 0, 1, 0⟩,
  ⟨15, [97, 117, 116, 104], 0, 5, 65531, 1, 0⟩,
  ⟨64, [105, 45, 100, 97, 116, 97], 15, 17, 65531, 1, 0⟩,
  ⟨128, [97, 115, 99, 111, 110, 102, 45, 97, 99, 107], 0, 4, 4, 1, 2⟩,
  ⟨130, [114, 101, 45, 99, 111, 110, 102, 105, 103], 0, 0, 0, 1, 5⟩,
  ⟨132, [112, 97, 100], 0, 0, 65531, 1, 0⟩,
  ⟨192, [102, 111, 114, 119, 97, 114, 100, 45, 116, 115, 110], 0, 4, 65531, 4, 0⟩,
  ⟨193, [97, 115, 99, 111, 110, 102], 0, 4, 4, 1, 6⟩,
  ⟨194, [105, 45, 102, 111, 114, 119, 97, 114, 100, 45, 116, 115, 110], 0, 4, 65531, 8, 0⟩]
def kr (i : Nat) : KRow := KT.getD i ⟨0, [], 0, 0, 0, 0, 0⟩
def kty (i : Nat) : Int := (kr i).ty
def kname (i : Nat) : ByteArray := ⟨(kr i).name.toArray⟩
def kmask (i : Nat) : Int := (kr i).mask
def kleast (i : Nat) : Int := (kr i).least
def kmost (i : Nat) : Int := (kr i).most
def kunit (i : Nat) : Int := (kr i).unit
def kkids (i : Nat) : Int := (kr i).kids
def KRow.datum {H : Type} (r : KRow) : DataW H := .agg [.lit (.int .u8 r.ty), .lit (.string r.name), .lit (.int .u8 r.mask), .lit (.int .i64 r.least), .lit (.int .i64 r.most), .lit (.int .i64 r.unit), .lit (.int .i64 r.kids)]
theorem table_datum {H : Type} : (Rows.laid_wharf_kind_table : DataW H) = .agg (KT.map KRow.datum) := rfl

/-- the classes and numbers of nodes inside -/
def IT : List (Int × Int × Int) := [(0, 0, 0), (1, 1, 1), (1, 0, 16384), (2, 0, 16384), (2, 1, 16384), (1, 1, 2), (1, 2, 16384)]
def it (i : Nat) : Int × Int × Int := IT.getD i (0, 0, 0)
def it0 (i : Nat) : Int := (it i).1
def it1 (i : Nat) : Int := (it i).2.1
def it2 (i : Nat) : Int := (it i).2.2
theorem inside_datum {H : Type} : (Rows.laid_wharf_kind_inside : DataW H) = .agg (IT.map fun r => .agg [.lit (.int .i64 r.1), .lit (.int .i64 r.2.1), .lit (.int .i64 r.2.2)]) := rfl

/-- the cells of a form of the table, in the world w, at block b, from off on -/
def RowAt (w : World) (b off i : Nat) : Prop :=
  w.cell? ⟨b, off, none⟩ = some (.int .u8 (kty i)) ∧ w.cell? ⟨b, off + 1, none⟩ = some (.string (kname i)) ∧ w.cell? ⟨b, off + 2, none⟩ = some (.int .u8 (kmask i)) ∧
  w.cell? ⟨b, off + 3, none⟩ = some (.int .i64 (kleast i)) ∧ w.cell? ⟨b, off + 4, none⟩ = some (.int .i64 (kmost i)) ∧ w.cell? ⟨b, off + 5, none⟩ = some (.int .i64 (kunit i)) ∧
  w.cell? ⟨b, off + 6, none⟩ = some (.int .i64 (kkids i))
def TabOk (w : World) : Prop := (∀ i, i < 23 → RowAt w 0 (i * 7) i) ∧ ∃ cs tt fr, w.heap[0]? = some (.cells cs tt fr) ∧ cs.size = 161
def InsOk (w : World) : Prop := ∀ i, i < 7 → w.cell? ⟨1, i * 3, none⟩ = some (.int .i64 (it0 i)) ∧ w.cell? ⟨1, i * 3 + 1, none⟩ = some (.int .i64 (it1 i)) ∧ w.cell? ⟨1, i * 3 + 2, none⟩ = some (.int .i64 (it2 i))

theorem gTab : Tryd.prog.globalNamed "wharf/kind.table" = some 0 := by kernel_rfl
theorem gIns : Tryd.prog.globalNamed "wharf/kind.inside" = some 1 := by kernel_rfl
theorem tTab : (Tryd.prog.globals[0]?).map (·.type) = some 47 := by kernel_rfl
theorem tIns : (Tryd.prog.globals[1]?).map (·.type) = some 49 := by kernel_rfl
theorem cellsOf33 : Tryd.prog.cellsOf 33 = 7 := by kernel_rfl
theorem cellsOf48 : Tryd.prog.cellsOf 48 = 3 := by kernel_rfl
theorem cellsOf5 : Tryd.prog.cellsOf 5 = 1 := by kernel_rfl
theorem cellsOf3 : Tryd.prog.cellsOf 3 = 1 := by kernel_rfl
theorem cellsOf9 : Tryd.prog.cellsOf 9 = 1 := by kernel_rfl

theorem cut_one {cs : List Value} {a n j : Nat} {v : Value} (hj : j < n) (h : (((cs.drop a).take n).drop j).take 1 = [v]) : cs[a + j]? = some v := by
  have := congrArg (·[0]?) h
  simp only [List.getElem?_take, List.getElem?_drop, List.getElem?_cons_zero, Nat.zero_lt_one, if_true, Nat.add_zero] at this
  rw [if_pos hj] at this
  exact this
theorem at_fst {α β : Type} {xs : List (α × β)} {ys : List α} (h : ys = xs.map (·.1)) {i : Nat} {y : α} (hy : ys[i]? = some y) : ∃ q, xs[i]? = some (y, q) := by
  rw [h, List.getElem?_map] at hy
  obtain ⟨⟨a, b⟩, h1, rfl⟩ := Option.map_eq_some_iff.1 hy
  exact ⟨b, h1⟩

section
variable {H : Type} {enc : TypeId × Value → H} {w : World} {base : Nat} {sp : Nat → Bool} {held : Bool}
theorem field_int {t : TypeId} {k : IntKind} (ht : Tryd.prog.underlying t = some (.int k)) {m : Nat} {cs : List Value} {a n j : Nat} {z : Int} {q : List MemPlace} (hj : j < n)
    (h : DataW.trod enc Tryd.prog w base sp held m t ((((cs.drop a).take n).drop j).take 1) = some (.lit (.int k z), q)) : cs[a + j]? = some (.int k z) := by
  obtain ⟨z', hc, hx, _⟩ := DataW.trod_int ht h
  simp only [Prod.mk.injEq, DataW.lit.injEq, Lit.int.injEq, true_and] at hx
  rw [hx.1]
  exact cut_one hj hc
theorem field_str {t : TypeId} (ht : Tryd.prog.underlying t = some .string) {m : Nat} {cs : List Value} {a n j : Nat} {z : List UInt8} {q : List MemPlace} (hj : j < n)
    (h : DataW.trod enc Tryd.prog w base sp held m t ((((cs.drop a).take n).drop j).take 1) = some (.lit (.string z), q)) : cs[a + j]? = some (.string ⟨z.toArray⟩) := by
  obtain ⟨s, hc, hx, _⟩ := DataW.trod_string ht h
  simp only [Prod.mk.injEq, DataW.lit.injEq, Lit.string.injEq] at hx
  have : s = ⟨z.toArray⟩ := by rw [hx.1]
  rw [← this]
  exact cut_one hj hc

theorem tab_cells {fuel : Nat} {cs : List Value} {p : List MemPlace} (h : DataW.trod enc Tryd.prog w base sp held fuel 47 cs = some (Rows.laid_wharf_kind_table, p)) (i : Nat) (hi : i < 23) :
    cs[i * 7]? = some (.int .u8 (kty i)) ∧ cs[i * 7 + 1]? = some (.string (kname i)) ∧ cs[i * 7 + 2]? = some (.int .u8 (kmask i)) ∧ cs[i * 7 + 3]? = some (.int .i64 (kleast i)) ∧
    cs[i * 7 + 4]? = some (.int .i64 (kmost i)) ∧ cs[i * 7 + 5]? = some (.int .i64 (kunit i)) ∧ cs[i * 7 + 6]? = some (.int .i64 (kkids i)) := by
  rw [table_datum] at h
  obtain ⟨xs, m, rfl, hx, _, _, hel⟩ := DataW.trod_array Tryd.underlying47 h
  simp only [Prod.mk.injEq, DataW.agg.injEq] at hx
  have hk : (KT.map (KRow.datum (H := H)))[i]? = some (kr i).datum := by
    have hl : i < KT.length := hi
    rw [List.getElem?_map, List.getElem?_eq_getElem hl]
    simp [kr, List.getD, hl]
  obtain ⟨q, hq⟩ := at_fst hx.1 hk
  have h2 := hel i hi
  rw [hq, cellsOf33] at h2
  obtain ⟨ys, m2, rfl, hy, _, _, hf⟩ := DataW.trod_struct Tryd.underlying33 h2
  simp only [Prod.mk.injEq, KRow.datum, DataW.agg.injEq] at hy
  have f0 : DataW.trod enc Tryd.prog w base sp held m2 5 ((((cs.drop (i * 7)).take 7).drop 0).take (Tryd.prog.cellsOf 5)) = ys[0]? := hf 0 _ rfl
  have f1 : DataW.trod enc Tryd.prog w base sp held m2 9 ((((cs.drop (i * 7)).take 7).drop 1).take (Tryd.prog.cellsOf 9)) = ys[1]? := hf 1 _ rfl
  have f2 : DataW.trod enc Tryd.prog w base sp held m2 5 ((((cs.drop (i * 7)).take 7).drop 2).take (Tryd.prog.cellsOf 5)) = ys[2]? := hf 2 _ rfl
  have f3 : DataW.trod enc Tryd.prog w base sp held m2 3 ((((cs.drop (i * 7)).take 7).drop 3).take (Tryd.prog.cellsOf 3)) = ys[3]? := hf 3 _ rfl
  have f4 : DataW.trod enc Tryd.prog w base sp held m2 3 ((((cs.drop (i * 7)).take 7).drop 4).take (Tryd.prog.cellsOf 3)) = ys[4]? := hf 4 _ rfl
  have f5 : DataW.trod enc Tryd.prog w base sp held m2 3 ((((cs.drop (i * 7)).take 7).drop 5).take (Tryd.prog.cellsOf 3)) = ys[5]? := hf 5 _ rfl
  have f6 : DataW.trod enc Tryd.prog w base sp held m2 3 ((((cs.drop (i * 7)).take 7).drop 6).take (Tryd.prog.cellsOf 3)) = ys[6]? := hf 6 _ rfl
  obtain ⟨q0, e0⟩ := at_fst (i := 0) hy.1 rfl
  obtain ⟨q1, e1⟩ := at_fst (i := 1) hy.1 rfl
  obtain ⟨q2, e2⟩ := at_fst (i := 2) hy.1 rfl
  obtain ⟨q3, e3⟩ := at_fst (i := 3) hy.1 rfl
  obtain ⟨q4, e4⟩ := at_fst (i := 4) hy.1 rfl
  obtain ⟨q5, e5⟩ := at_fst (i := 5) hy.1 rfl
  obtain ⟨q6, e6⟩ := at_fst (i := 6) hy.1 rfl
  rw [e0, cellsOf5] at f0
  rw [e1, cellsOf9] at f1
  rw [e2, cellsOf5] at f2
  rw [e3, cellsOf3] at f3
  rw [e4, cellsOf3] at f4
  rw [e5, cellsOf3] at f5
  rw [e6, cellsOf3] at f6
  exact ⟨field_int (n := 7) (j := 0) Tryd.underlying5 (by decide) f0, field_str (n := 7) (j := 1) Tryd.underlying9 (by decide) f1, field_int (n := 7) (j := 2) Tryd.underlying5 (by decide) f2, field_int (n := 7) (j := 3) Tryd.underlying3 (by decide) f3,
    field_int (n := 7) (j := 4) Tryd.underlying3 (by decide) f4, field_int (n := 7) (j := 5) Tryd.underlying3 (by decide) f5, field_int (n := 7) (j := 6) Tryd.underlying3 (by decide) f6⟩

theorem ins_cells {fuel : Nat} {cs : List Value} {p : List MemPlace} (h : DataW.trod enc Tryd.prog w base sp held fuel 49 cs = some (Rows.laid_wharf_kind_inside, p)) (i : Nat) (hi : i < 7) :
    cs[i * 3]? = some (.int .i64 (it0 i)) ∧ cs[i * 3 + 1]? = some (.int .i64 (it1 i)) ∧ cs[i * 3 + 2]? = some (.int .i64 (it2 i)) := by
  rw [inside_datum] at h
  obtain ⟨xs, m, rfl, hx, _, _, hel⟩ := DataW.trod_array Tryd.underlying49 h
  simp only [Prod.mk.injEq, DataW.agg.injEq] at hx
  have hk : (IT.map fun r => (.agg [.lit (.int .i64 r.1), .lit (.int .i64 r.2.1), .lit (.int .i64 r.2.2)] : DataW H))[i]? = some (.agg [.lit (.int .i64 (it0 i)), .lit (.int .i64 (it1 i)), .lit (.int .i64 (it2 i))]) := by
    have hl : i < IT.length := hi
    rw [List.getElem?_map, List.getElem?_eq_getElem hl]
    simp [it0, it1, it2, it, List.getD, hl]
  obtain ⟨q, hq⟩ := at_fst hx.1 hk
  have h2 := hel i hi
  rw [hq, cellsOf48] at h2
  obtain ⟨ys, m2, rfl, hy, _, _, hf⟩ := DataW.trod_array Tryd.underlying48 h2
  simp only [Prod.mk.injEq, DataW.agg.injEq] at hy
  have f0 : DataW.trod enc Tryd.prog w base sp held m2 3 ((((cs.drop (i * 3)).take 3).drop (0 * Tryd.prog.cellsOf 3)).take (Tryd.prog.cellsOf 3)) = ys[0]? := hf 0 (by decide)
  have f1 : DataW.trod enc Tryd.prog w base sp held m2 3 ((((cs.drop (i * 3)).take 3).drop (1 * Tryd.prog.cellsOf 3)).take (Tryd.prog.cellsOf 3)) = ys[1]? := hf 1 (by decide)
  have f2 : DataW.trod enc Tryd.prog w base sp held m2 3 ((((cs.drop (i * 3)).take 3).drop (2 * Tryd.prog.cellsOf 3)).take (Tryd.prog.cellsOf 3)) = ys[2]? := hf 2 (by decide)
  obtain ⟨q0, e0⟩ := at_fst (i := 0) hy.1 rfl
  obtain ⟨q1, e1⟩ := at_fst (i := 1) hy.1 rfl
  obtain ⟨q2, e2⟩ := at_fst (i := 2) hy.1 rfl
  rw [e0, cellsOf3] at f0
  rw [e1, cellsOf3] at f1
  rw [e2, cellsOf3] at f2
  exact ⟨field_int (n := 3) (j := 0) Tryd.underlying3 (by decide) f0, field_int (n := 3) (j := 1) Tryd.underlying3 (by decide) f1, field_int (n := 3) (j := 2) Tryd.underlying3 (by decide) f2⟩
end

/-- WHAT THE ROWS' CONDITION GIVES -/
theorem tabs_of_laid {W : World} (h : laidMetH Tryd.prog [("wharf/kind.table", Rows.laid_wharf_kind_table), ("wharf/kind.inside", Rows.laid_wharf_kind_inside)] W) : TabOk W ∧ InsOk W := by
  rw [MakeChecks.laidMetH_plain _ _ _ (by kernel_rfl)] at h
  obtain ⟨ps, ⟨g1, t1, cs1, fuel1, p1, q1, hg1, ht1, hvar1, hd1, ⟨g2, t2, cs2, fuel2, p2, q2, hg2, ht2, hvar2, hd2, _, _⟩, _⟩, _⟩ := h
  obtain rfl := Option.some.inj (gTab.symm.trans hg1)
  obtain rfl := Option.some.inj (tTab.symm.trans ht1)
  obtain rfl := Option.some.inj (gIns.symm.trans hg2)
  obtain rfl := Option.some.inj (tIns.symm.trans ht2)
  refine ⟨⟨fun i hi => ?_, ?_⟩, fun i hi => ?_⟩
  · have c := tab_cells hd1 i hi
    have e := fun j => World.var?_cell gTab hvar1 j
    unfold RowAt
    simp only [e]
    simpa using c
  · have hl := (DataW.trod_array Tryd.underlying47 (by rw [table_datum] at hd1; exact hd1)).choose_spec.choose_spec.2.2.1
    rw [show Tryd.prog.cellsOf 47 = 161 by kernel_rfl] at hl
    unfold World.var? at hvar1
    rw [gTab, Option.bind_some] at hvar1
    split at hvar1
    · rename_i hh
      simp only [Option.some.injEq] at hvar1
      subst hvar1
      exact ⟨_, _, _, hh, by simpa using hl⟩
    · cases hvar1
  · have c := ins_cells hd2 i hi
    have e := fun j => World.var?_cell gIns hvar2 j
    simp only [e]
    simpa using c

end Go.Proofs.YtoioindpmgkefaaDoor

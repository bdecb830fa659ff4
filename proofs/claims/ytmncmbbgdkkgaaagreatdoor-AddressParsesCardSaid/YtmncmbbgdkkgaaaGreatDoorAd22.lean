/- A node as the row reads it. -/
import Derived.Test.YtmncmbbgdkkgaaaGreatDoorAd21
import Derived.ProofKit
import Derived.OpenShut
import Derived.ChangeSame
namespace Go.Proofs.YtmncmbbgdkkgaaaGreatDoor
set_option maxRecDepth 100000
set_option linter.unusedVariables false
open Go.RowKit Go.ChangeShapes Go.WideShapes

theorem adds (a : Addr) (i j : Nat) : (a.add i).add j = a.add (i + j) := by
  unfold Addr.add
  split <;> split <;> simp_all [Nat.add_assoc]
theorem nd_fields : ∃ f0 f1 f2 : Field, Tryz.prog.underlying 26 = some (.struct #[f0, f1, f2]) ∧ (f0.type = 22 ∧ f0.offset = 0) ∧ (f1.type = 23 ∧ f1.offset = 1) ∧ (f2.type = 24 ∧ f2.offset = 2) := ⟨_, _, _, Tryz.underlying26, ⟨rfl, rfl⟩, ⟨rfl, rfl⟩, ⟨rfl, rfl⟩⟩
theorem cells_nd : Tryz.prog.cellsOf 26 = 3 ∧ Tryz.prog.cellsOf 22 = 1 ∧ Tryz.prog.cellsOf 23 = 1 ∧ Tryz.prog.cellsOf 24 = 1 := ⟨by kernel_rfl, by kernel_rfl, by kernel_rfl, by kernel_rfl⟩
section
variable {H : Type} {enc : TypeId × Value → H} {W : World} {sp : Nat → Bool} {held : Bool}
theorem nd_parts {fuel : Nat} {cs : List Value} {x : DataW H × List MemPlace} (h : DataW.trod enc Tryz.prog W 0 sp held fuel 26 cs = some x) :
    ∃ (c0 c1 c2 : Value) (n : Nat) (y0 y1 y2 : DataW H × List MemPlace), cs = [c0, c1, c2] ∧ DataW.trod enc Tryz.prog W 0 sp held n 22 [c0] = some y0 ∧ DataW.trod enc Tryz.prog W 0 sp held n 23 [c1] = some y1 ∧ DataW.trod enc Tryz.prog W 0 sp held n 24 [c2] = some y2 := by
  obtain ⟨f0, f1, f2, hu, ⟨t0, o0⟩, ⟨t1, o1⟩, ⟨t2, o2⟩⟩ := nd_fields
  obtain ⟨c3, cu, cb, cn⟩ := cells_nd
  obtain ⟨xs, n, -, -, hl, hxl, hf⟩ := DataW.trod_struct hu h
  rw [c3] at hl
  match cs, hl, xs, hxl with
  | [c0, c1, c2], _, [y0, y1, y2], _ =>
    have g0 := hf 0 f0 rfl
    have g1 := hf 1 f1 rfl
    have g2 := hf 2 f2 rfl
    rw [t0, o0, cu] at g0
    rw [t1, o1, cb] at g1
    rw [t2, o2, cn] at g2
    exact ⟨c0, c1, c2, n, y0, y1, y2, rfl, by simpa using g0, by simpa using g1, by simpa using g2⟩
theorem kids_of : ∀ (f : Nat) {fuel : Nat} {cs : List Value} {x : DataW H × List MemPlace}, DataW.trod enc Tryz.prog W 0 sp held fuel 24 cs = some x → ∃ k m c, cs = [.slice k m c] ∧ Kids W f k m c
  | 0, fuel, cs, x, h => by
    rcases DataW.trod_slice Tryz.underlying24 h with ⟨rfl, _⟩ | ⟨a, len, cap, elems, rest, n, _, rfl, _⟩
    · exact ⟨_, _, _, rfl, trivial⟩
    · exact ⟨_, _, _, rfl, trivial⟩
  | f + 1, fuel, cs, x, h => by
    rcases DataW.trod_slice Tryz.underlying24 h with ⟨rfl, _⟩ | ⟨a, len, cap, elems, rest, n, _, rfl, _, _, hlc, hcm, hel, hcell, _⟩
    · exact ⟨none, 0, 0, rfl, by omega, fun h => absurd h (by omega)⟩
    · refine ⟨some a, len, cap, rfl, by unfold maxLen at hcm; omega, fun hm => ?_⟩
      have each : ∀ j, j < len → ∃ t z n c k m c', W.cell? (a.add (j * 3)) = some (.int .u16 t) ∧ W.cell? (a.add (j * 3 + 1)) = some (.slice z n c) ∧ W.cell? (a.add (j * 3 + 2)) = some (.slice k m c') ∧ Kids W f k m c' := fun j hj => by
        have h1 := hcell j hj
        rw [List.getElem?_eq_getElem (by omega)] at h1
        obtain ⟨cs', h2, h3⟩ := Option.bind_eq_some_iff.1 h1
        rw [cells_nd.1] at h2
        obtain ⟨_, _, hc⟩ := World.cells?_some h2
        obtain ⟨c0, c1, c2, n', y0, y1, y2, rfl, g0, g1, g2⟩ := nd_parts h3
        obtain ⟨z, e0, _⟩ := DataW.trod_int Tryz.underlying22 g0
        obtain ⟨k, m, c', e2, hk⟩ := kids_of f g2
        have e1 : ∃ z n c, c1 = .slice z n c := by
          rcases DataW.trod_slice Tryz.underlying23 g1 with ⟨e, _⟩ | ⟨a', len', cap', _, _, _, _, e, _⟩
          · exact ⟨none, 0, 0, by simpa using e⟩
          · exact ⟨_, _, _, by simpa using e⟩
        obtain ⟨za, zn, zc, rfl⟩ := e1
        have e0' : c0 = .int .u16 z := by simpa using e0
        have e2' : c2 = .slice k m c' := by simpa using e2
        subst e0' e2'
        have d0 := hc 0 (by omega)
        have d1 := hc 1 (by omega)
        have d2 := hc 2 (by omega)
        rw [adds] at d0 d1 d2
        exact ⟨z, za, zn, zc, k, m, c', by simpa using d0, by simpa using d1, by simpa using d2, hk⟩
      obtain ⟨b, off, s⟩ := a
      have hs : s = none := by
        obtain ⟨t, z, n, c, k, m, c', d0, _⟩ := each 0 hm
        simp only [Addr.add, Nat.zero_mul, if_pos] at d0
        simp only [World.cell?] at d0
        split at d0
        · cases s <;> simp_all
        · cases d0
      subst hs
      refine ⟨b, off, rfl, ?_, fun j hj => ?_⟩
      · obtain ⟨t, z, n, c, k, m, c', d0, _⟩ := each 0 hm
        have := lt_of_cell d0
        simpa [Addr.add] using this
      · obtain ⟨t, z, n, c, k, m, c', d0, d1, d2, hk⟩ := each j hj
        rw [Addr.add_lit] at d0 d1 d2
        exact ⟨t, z, n, c, k, m, c', d0, by rw [Nat.add_assoc]; exact d1, by rw [Nat.add_assoc]; exact d2, hk⟩
end
theorem open_nd {H : Type} {enc : TypeId × Value → H} {W : World} {v : Value} {d : DataW H} {p : List MemPlace} {fuel base : Nat}
    (hv : Value.okWide Tryz.prog W .any base 26 v) (hf : DataW.trod enc Tryz.prog W 0 (fun _ => true) true fuel 26 v.cells.toList = some (d, p)) :
    ∃ t a n c k m d' xs, v = ndV t a n c k m d' ∧ Ints .u8 W a n c xs ∧ Byt xs ∧ Kids W 20 k m d' := by
  obtain ⟨f0, f1, f2, hu, -, -, -⟩ := nd_fields
  have hv' := hv
  simp only [Value.okWide, hu] at hv'
  obtain ⟨cs, rfl, hsz, _⟩ := hv'
  obtain ⟨c0, c1, c2, n', y0, y1, y2, hcs, g0, g1, g2⟩ := nd_parts hf
  obtain ⟨z, e0, _⟩ := DataW.trod_int Tryz.underlying22 g0
  obtain ⟨k, m, c', e2, hk⟩ := kids_of 20 g2
  have e0' : c0 = .int .u16 z := by simpa using e0
  have e2' : c2 = .slice k m c' := by simpa using e2
  subst e0' e2'
  have hcs' : cs = #[.int .u16 z, c1, .slice k m c'] := by
    apply Array.ext'
    simpa [Value.cells] using hcs
  subst hcs'
  rcases open_ints Tryz.underlying23 Tryz.underlying5 (by kernel_rfl) g1 with ⟨h, _⟩ | ⟨y, l, q, zs, h, _, hl2, hm2, hz2, hD, hcell2, hwz⟩
  · have h' : c1 = .slice none 0 0 := by simpa using h
    subst h'
    exact ⟨z, none, 0, 0, k, m, c', [], rfl, Ints.nil _ _, (fun z hz => by cases hz), hk⟩
  · have h' : c1 = .slice (some y) l q := by simpa using h
    subst h'
    simp only [if_true] at hz2
    have hri := row_ints (k := .u8) (w := W) (a := some y) (len := l) (cap := q) (zs := zs) (.inr ⟨y, rfl, hl2, hm2, hz2, hcell2, hwz⟩)
    exact ⟨z, some y, l, q, k, m, c', zs.take l, rfl, hri.1, row_byt hri.2, hk⟩
end Go.Proofs.YtmncmbbgdkkgaaaGreatDoor

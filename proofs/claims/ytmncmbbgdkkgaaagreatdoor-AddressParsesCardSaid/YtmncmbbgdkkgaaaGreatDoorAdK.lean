/- Nodes in memory: a cell of three, its load, its store. -/
import Derived.Test.YtmncmbbgdkkgaaaGreatDoorAPut
import Derived.Test.YtmncmbbgdkkgaaaGreatDoorShelf
import Derived.Deep.RegionHeld3
namespace Go.Proofs.YtmncmbbgdkkgaaaGreatDoor
set_option maxRecDepth 100000
set_option linter.unusedVariables false
open Go.RowKit

/-- a node as a value -/
def ndV (t : Int) (a : Option Addr) (n c : Nat) (k : Option Addr) (m d : Nat) : Value := .agg #[.int .u16 t, .slice a n c, .slice k m d]
def zeroNode : Value := ndV 0 none 0 0 none 0 0
theorem results_cellb {fn : Func} {p u : Tmp} {ty : TypeId} (h : fn.results = #[.cell p ty, .tmp u]) (tmps : Array Value) (P : Program) (w : World) :
    (results fn tmps).run P w = ((asAddr (tmps.getD p undef)).run P w).andThen fun a w₁ => ((loadVar ty a).run P w₁).andThen fun x w₂ => .ok (.tuple #[x, tmps.getD u undef]) w₂ := by
  simp only [results, h]
  simp [Sem.run_bind, Result.andThen]
theorem results_cell1 {fn : Func} {p : Tmp} {ty : TypeId} (h : fn.results = #[.cell p ty]) (tmps : Array Value) (P : Program) (w : World) :
    (results fn tmps).run P w = ((asAddr (tmps.getD p undef)).run P w).andThen fun a w₁ => ((loadVar ty a).run P w₁).andThen fun x w₂ => .ok x w₂ := by
  simp only [results, h]
  simp [Sem.run_bind, Result.andThen]
  rcases Sem.run P (asAddr (tmps[p]?.getD undef)) w with ⟨a, w1⟩ | ⟨h1, w1⟩
  · simp only
    rcases Sem.run P (loadVar ty a) w1 with ⟨_, _⟩ | ⟨_, _⟩ <;> rfl
  · rfl
/-- the block of a node -/
def NdB (w : World) (b : Nat) (x0 x1 x2 : Value) : Prop := w.heap[b]? = some (.cells #[x0, x1, x2] 26 (0, 0))
theorem NdB.cell {w : World} {b : Nat} {x0 x1 x2 : Value} (h : NdB w b x0 x1 x2) : w.cell? ⟨b, 0, none⟩ = some x0 ∧ w.cell? ⟨b, 1, none⟩ = some x1 ∧ w.cell? ⟨b, 2, none⟩ = some x2 := by
  unfold NdB at h
  simp [World.cell?, h]
theorem NdB.free {w : World} {b : Nat} {x0 x1 x2 : Value} (h : NdB w b x0 x1 x2) (j : Nat) : w.frozen? ⟨b, j, none⟩ = false := by
  unfold NdB at h
  simp [World.frozen?, h]
theorem NdB.lt {w : World} {b : Nat} {x0 x1 x2 : Value} (h : NdB w b x0 x1 x2) : b < w.heap.size := (Array.getElem?_eq_some_iff.1 h).1
theorem NdB.below {w w' : World} {b n : Nat} {x0 x1 x2 : Value} (h : NdB w b x0 x1 x2) (hb : Below n w w') (hn : b < n) : NdB w' b x0 x1 x2 := (hb.block b hn).trans h
theorem NdB.new (w : World) (x0 x1 x2 : Value) : NdB (w.alloc (.cells #[x0, x1, x2] 26)) w.heap.size x0 x1 x2 := Array.getElem?_push_size
theorem NdB.load {w : World} {b : Nat} {x0 x1 x2 : Value} (h : NdB w b x0 x1 x2) : (loadVar 26 ⟨b, 0, none⟩).run Tryz.prog w = .ok (.agg #[x0, x1, x2]) w := by
  obtain ⟨h0, h1, h2⟩ := h.cell
  have hl : (loadCells ⟨b, 0, none⟩ 3).run Tryz.prog w = .ok #[x0, x1, x2] w := run_loadCells_list (P := Tryz.prog) (w := w) ⟨b, 0, none⟩ [x0, x1, x2] (fun j v hj => by
    match j, hj with
    | 0, hj => cases hj; exact h0
    | 1, hj => cases hj; exact h1
    | 2, hj => cases hj; exact h2)
  simp [loadVar, isAgg, underlying, Tryz.underlying26, hl, Result.andThen]
theorem cell_ne {W : World} {B B' o o' : Nat} {u x : Value} (h : W.cell? ⟨B, o, none⟩ = some x) (hne : B' ≠ B ∨ o' ≠ o) : (W.setCell ⟨B', o', none⟩ u).cell? ⟨B, o, none⟩ = some x := by
  rw [World.cell?_setCell_other _ _ _ _ (fun e => by
    have e1 := congrArg Addr.block e
    have e2 := congrArg Addr.off e
    simp only at e1 e2
    omega)]
  exact h
theorem own_set {w : World} {b B o : Nat} {u : Value} {e : TypeId} {s n : Nat} {v : Value} {xs : List Value} (h : w.ownsRow b e s v n xs) (hB : B < b) : (w.setCell ⟨B, o, none⟩ u).ownsRow b e s v n xs := by
  obtain ⟨h1, h2⟩ := h
  refine ⟨h1, ?_⟩
  rcases h2 with ⟨rfl, h2⟩ | ⟨g, cap, cur, rfl, hg1, hh, h3⟩
  · exact .inl ⟨rfl, h2⟩
  · refine .inr ⟨g, cap, cur, rfl, hg1, ?_, h3⟩
    rw [Below.heap_setCell _ _ _ _ (by show g ≠ B; omega)]
    exact hh
theorem set3 {W : World} {B : Nat} {x0 x1 x2 y0 y1 y2 : Value} (h : NdB W B y0 y1 y2) :
    ∃ Z, ((W.setCell ⟨B, 0, none⟩ x0).setCell ⟨B, 1, none⟩ x1).setCell ⟨B, 2, none⟩ x2 = Z ∧ NdB Z B x0 x1 x2 ∧ Below B W Z ∧
      ∀ {b : Nat} {e : TypeId} {s n : Nat} {v : Value} {xs : List Value}, B < b → W.ownsRow b e s v n xs → Z.ownsRow b e s v n xs := by
  refine ⟨_, rfl, ?_, ?_, ?_⟩
  · unfold NdB at h ⊢
    simp [World.setCell, Array.getElem?_modify, h]
  · exact (((Below.refl B W).setCell (p := ⟨B, 0, none⟩) (Nat.le_refl _) _).setCell (p := ⟨B, 1, none⟩) (Nat.le_refl _) _).setCell (p := ⟨B, 2, none⟩) (Nat.le_refl _) _
  · intro b e s n v xs hB h
    exact own_set (own_set (own_set h hB) hB) hB
end Go.Proofs.YtmncmbbgdkkgaaaGreatDoor

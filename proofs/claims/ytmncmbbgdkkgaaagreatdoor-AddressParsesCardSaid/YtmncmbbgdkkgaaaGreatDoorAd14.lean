/- address.All of an address and a host's name. -/
import Derived.Test.YtmncmbbgdkkgaaaGreatDoorAd13
namespace Go.Proofs.YtmncmbbgdkkgaaaGreatDoor
set_option maxRecDepth 100000
set_option linter.unusedVariables false
open Go.RowKit Go.Shelf
section
theorem store_fn (P : Program) (w : World) (a : Addr) (m : Mode) (fn : Fn) (first captured : Array Value) : (store a (.func fn first captured) m).run P w = stored P w a (.func fn first captured) m := run_store P w a _ m rfl
attribute [local go_sem] Oper.semAt_some store_fn

set_option maxHeartbeats 4000000 in
theorem walk1_seq (n Bl b N : Nat) (T : Nat → Int) (Sa : Nat → Option Addr) (Sn Sc : Nat → Nat) (K : Nat → Option Addr) (D : Nat → Nat) (hN : N ≤ 1000) (w : World) (hbw : b < w.heap.size)
    (hBl : w.cell? ⟨Bl, 0, none⟩ = some (.slice (some ⟨b, 0, none⟩) N N))
    (hc : ∀ j, j < N → w.cell? ⟨b, j * 3, none⟩ = some (.int .u16 (T j)) ∧ w.cell? ⟨b, j * 3 + 1, none⟩ = some (.slice (Sa j) (Sn j) (Sc j)) ∧ w.cell? ⟨b, j * 3 + 2, none⟩ = some (.slice (K j) 0 (D j))) :
    SeqN [93, 94, 26] n Tryz.prog 57 #[.pointer (some ⟨Bl, 0, none⟩)] (fun j => #[.int .i64 1, .agg #[.int .u16 (T j), .slice (Sa j) (Sn j) (Sc j), .slice (K j) 0 (D j)]]) (fun x => x = b) N w := by
  intro l J Jx W hW hlW hJ hJx hY h0
  have h1 := (hW.cell (p := ⟨Bl, 0, none⟩) (lt_of_cell hBl)).trans hBl
  have HC := Lib.hid hc
  have HY := Lib.hid hY
  have HWW := Lib.hid hW
  have hBlt : Bl < W.heap.size := lt_of_cell h1
  clear hc hY hW hBl
  obtain ⟨W1, hW1⟩ : ∃ W1, W.alloc (.cells #[.func (.yield l) #[] #[]] 93) = W1 := ⟨_, rfl⟩
  have hs1 : W1.heap.size = W.heap.size + 1 := by rw [← hW1]; simp
  have bY1 : Boxed W1 W.heap.size 93 (.func (.yield l) #[] #[]) := by rw [← hW1]; exact Boxed.new _ _ _
  have hJ1 : J 0 W1 := by rw [← hW1]; exact hJ.alloc _ h0
  have hb1 : Below W.heap.size W W1 := by rw [← hW1]; exact (Below.refl _ _).alloc (Nat.le_refl _) _
  obtain ⟨W2, hW2⟩ : ∃ W2, W1.alloc (.cells #[.nilFunc] 94) = W2 := ⟨_, rfl⟩
  have bV2 : Boxed W2 (W.heap.size + 1) 94 .nilFunc := by rw [← hW2, ← hs1]; exact Boxed.new _ _ _
  have bY2 : Boxed W2 W.heap.size 93 (.func (.yield l) #[] #[]) := by rw [← hW2]; exact bY1.alloc _
  have hJ2 : J 0 W2 := by rw [← hW2]; exact hJ.alloc _ hJ1
  have hb2 : Below W.heap.size W W2 := by rw [← hW2]; exact hb1.alloc hb1.size _
  refine callsIn_of_wp Tryz.func57 rfl trivial ?_ rfl
  simp only [Tryz.ntmps57, List.size_toArray, List.length_cons, List.length_nil, Nat.reduceAdd, Nat.reduceSub, Array.replicate_succ, Array.replicate_zero, List.push_toArray, List.append_toArray, List.nil_append, List.cons_append]
  have v2 := bV2.cell
  have g2 := bV2.frozen
  obtain ⟨F, hF⟩ : ∃ F : Value, .func (.func 58) #[] #[.pointer (some ⟨W.heap.size, 0, none⟩), .pointer (some ⟨W.heap.size + 1, 0, none⟩)] = F := ⟨_, rfl⟩
  obtain ⟨Z, hZ⟩ : ∃ Z, W2.setCell ⟨W.heap.size + 1, 0, none⟩ (.func (.func 58) #[] #[.pointer (some ⟨W.heap.size, 0, none⟩), .pointer (some ⟨W.heap.size + 1, 0, none⟩)]) = Z := ⟨_, rfl⟩
  have bVZ : Boxed Z (W.heap.size + 1) 94 (.func (.func 58) #[] #[.pointer (some ⟨W.heap.size, 0, none⟩), .pointer (some ⟨W.heap.size + 1, 0, none⟩)]) := by rw [← hZ]; exact bV2.set _
  have hbZ : Below W.heap.size W Z := by rw [← hZ]; exact hb2.setCell (p := ⟨W.heap.size + 1, 0, none⟩) (Nat.le_succ _) _
  have bYZ : Boxed Z W.heap.size 93 (.func (.yield l) #[] #[]) := by
    rw [← hZ]
    exact (Below.heap_setCell _ _ _ _ (by show W.heap.size ≠ W.heap.size + 1; omega)).trans bY2
  have hJZ : J 0 Z := hJ 0 W Z none h0 ⟨hbZ.os, hbZ.tape, hbZ.output, hbZ.size, fun k hk _ => hbZ.block k hk⟩ (fun r e => by cases e)
  have zl := cell_below hbZ h1
  have zv := bVZ.cell
  have HZ := Lib.hid hbZ
  have HJZ := Lib.hid hJZ
  have hsZ := hbZ.size
  have HYZ := Lib.hid bYZ
  have HVZ := Lib.hid bVZ
  clear hbZ hJZ hb1 hb2 hJ1 hJ2 bY1 bY2 bV2 bVZ bYZ hF
  have hc' : ∀ j, j < N → Z.cell? ⟨b, j * 3, none⟩ = some (.int .u16 (T j)) ∧ Z.cell? ⟨b, j * 3 + 1, none⟩ = some (.slice (Sa j) (Sn j) (Sc j)) ∧ Z.cell? ⟨b, j * 3 + 2, none⟩ = some (.slice (K j) 0 (D j)) := fun j hj => by
    have hbz := HWW.out.trans (HZ.out.mono HWW.out.size)
    obtain ⟨d0, d1, d2⟩ := HC.out j hj
    exact ⟨cell_below hbz d0, cell_below hbz d1, cell_below hbz d2⟩
  have HCZ := Lib.hid hc'
  clear hc'
  gi_wp2_with fail
  refine ⟨trivial, (fun h => by simp [Fence.wide] at h), ?_⟩
  refine (visit_all (n - 1) l W.heap.size (W.heap.size + 1) b N T Sa Sn Sc K D hN J Jx hJ Z HY.out (by omega) (by omega) (by omega) HYZ.out HVZ.out HCZ.out HJZ.out).mono ?_
  rintro e W5 ⟨⟨v5, rfl⟩, h5⟩
  have H5 := Lib.hid h5
  clear h5
  gi_wp2
  go_end0
  exact ⟨⟨_, rfl⟩, H5.out⟩
/-- node.Walk: the list is boxed; the function value captures the box -/
theorem walk_any (l : Value) (a : Option Addr) (k c : Nat) (hl : l = .slice a k c) (w : World) :
    Calls Tryz.prog 39 #[l] w fun e w' => e = .returned (.func (.func 57) #[] #[.pointer (some ⟨w.heap.size, 0, none⟩)]) ∧ w' = w.alloc (.cells #[l] 24) := by
  subst hl
  go_enter Tryz.func39, Tryz.ntmps39
  go_wp2
  go_ret
  exact ⟨rfl, rfl⟩
end
end Go.Proofs.YtmncmbbgdkkgaaaGreatDoor

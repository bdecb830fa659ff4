/- address.Of. -/
import Derived.Test.YtmncmbbgdkkgaaaGreatDoorAdK
namespace Go.Proofs.YtmncmbbgdkkgaaaGreatDoor
set_option maxRecDepth 100000
set_option linter.unusedVariables false
open Go.RowKit

theorem clone_any (a : Option Addr) (n c : Nat) (xs : List Int) (w : World) (hx : Ints .u8 w a n c xs) (hn : 0 < n) (h40 : n ≤ 1099511627776) :
    Calls Tryz.prog 26 #[.slice a n c] w fun e w' => ∃ a' c', e = .returned (.slice a' n c') ∧ w'.ownsRow w.heap.size 5 1 (.slice a' n c') n (xs.map (Value.int .u8)) ∧ Below w.heap.size w w' := by
  obtain ⟨b, off, rfl, hlt, hc⟩ := hx.2.2.2.2 hn
  refine (Tryz.bytes_Clone_at ⟨b, off, none⟩ n c xs w hx.len (by omega) (fun i hi => ?_)).mono ?_
  · have hl := hx.len
    rw [show (⟨b, off, none⟩ : Addr).add i = ⟨b, off + i, none⟩ by simp [Addr.add]]
    exact hc i _ (by rw [List.getElem?_map]; simp [List.getD, show i < xs.length by omega])
  · rintro e w' ⟨v, rfl, ho, _, hb⟩
    obtain ⟨a', c', rfl, _⟩ := Sl.own ho
    exact ⟨a', c', rfl, ho, hb⟩
theorem of_no (a : Option Addr) (n c : Nat) (w : World) (h4 : n ≠ 4) (h16 : n ≠ 16) :
    Calls Tryz.prog 12 #[.slice a n c] w fun e w' => e = .returned (.tuple #[zeroNode, .bool false]) ∧ Below w.heap.size w w' := by
  have d4 : ((n : Int) == 4) = false := by simp; omega
  have d16 : ((n : Int) == 16) = false := by simp; omega
  go_enter Tryz.func12, Tryz.ntmps12
  go_wp2
  refine bodyPost_ret (v := .tuple #[zeroNode, .bool false]) ?_ rfl ?_
  · rw [results_cellb rfl, show zeroNode = .agg #[.int .u16 0, .slice none 0 0, .slice none 0 0] from rfl]
    simp [asAddr, Result.andThen, (NdB.new w (.int .u16 0) (.slice none 0 0) (.slice none 0 0)).load]
  · exact ⟨rfl, (Below.refl _ w).alloc (Nat.le_refl _) _⟩
theorem of_yes (a : Option Addr) (n c : Nat) (xs : List Int) (w : World) (hx : Ints .u8 w a n c xs) (h : n = 4 ∨ n = 16) :
    Calls Tryz.prog 12 #[.slice a n c] w fun e w' => ∃ a' c', e = .returned (.tuple #[ndV (if n = 4 then 5 else 6) a' n c' none 0 0, .bool true]) ∧ w'.ownsRow w.heap.size 5 1 (.slice a' n c') n (xs.map (Value.int .u8)) ∧ Below w.heap.size w w' := by
  have HX := Lib.hid hx
  clear hx
  rcases h with rfl | rfl
  · go_enter Tryz.func12, Tryz.ntmps12
    go_wp2_with fail
    obtain ⟨W, hW⟩ : ∃ W, w.alloc (.cells #[.int .u16 0, .slice none 0 0, .slice none 0 0] 26) = W := ⟨_, rfl⟩
    rw [hW]
    have HN := Lib.hid (show NdB W w.heap.size _ _ _ from hW ▸ NdB.new w (.int .u16 0) (.slice none 0 0) (.slice none 0 0))
    have HB := Lib.hid (show Below w.heap.size w W from hW ▸ (Below.refl _ w).alloc (Nat.le_refl _) _)
    have hsz : W.heap.size = w.heap.size + 1 := by rw [← hW]; simp
    clear hW
    refine (clone_any a 4 c xs _ (HX.out.below HB.out) (by omega) (by omega)).mono ?_
    rintro e w1 ⟨a', c', rfl, ho, hb⟩
    have HN1 := HN.out.below hb (by omega)
    obtain ⟨n0, n1, n2⟩ := HN1.cell
    have f0 := HN1.free 0
    have f1 := HN1.free 1
    have f2 := HN1.free 2
    have HO := Lib.hid ho
    have HBB := Lib.hid (HB.out.trans (hb.mono HB.out.size))
    have HND := Lib.hid HN1
    clear ho hb HN1
    go_wp2
    obtain ⟨Z, hZ, hnd, hbz, hoz⟩ := set3 (x0 := .int .u16 5) (x1 := .slice a' 4 c') (x2 := .slice none 0 0) HND.out
    rw [hZ]
    refine bodyPost_ret (v := .tuple #[ndV 5 a' 4 c' none 0 0, .bool true]) ?_ rfl ?_
    · rw [results_cellb rfl]
      simp [asAddr, Result.andThen, hnd.load, ndV]
    · exact ⟨a', c', rfl, own_base (hoz (by omega) HO.out) (by omega), HBB.out.trans hbz⟩
  · go_enter Tryz.func12, Tryz.ntmps12
    go_wp2_with fail
    obtain ⟨W, hW⟩ : ∃ W, w.alloc (.cells #[.int .u16 0, .slice none 0 0, .slice none 0 0] 26) = W := ⟨_, rfl⟩
    rw [hW]
    have HN := Lib.hid (show NdB W w.heap.size _ _ _ from hW ▸ NdB.new w (.int .u16 0) (.slice none 0 0) (.slice none 0 0))
    have HB := Lib.hid (show Below w.heap.size w W from hW ▸ (Below.refl _ w).alloc (Nat.le_refl _) _)
    have hsz : W.heap.size = w.heap.size + 1 := by rw [← hW]; simp
    clear hW
    refine (clone_any a 16 c xs _ (HX.out.below HB.out) (by omega) (by omega)).mono ?_
    rintro e w1 ⟨a', c', rfl, ho, hb⟩
    have HN1 := HN.out.below hb (by omega)
    obtain ⟨n0, n1, n2⟩ := HN1.cell
    have f0 := HN1.free 0
    have f1 := HN1.free 1
    have f2 := HN1.free 2
    have HO := Lib.hid ho
    have HBB := Lib.hid (HB.out.trans (hb.mono HB.out.size))
    have HND := Lib.hid HN1
    clear ho hb HN1
    go_wp2
    obtain ⟨Z, hZ, hnd, hbz, hoz⟩ := set3 (x0 := .int .u16 6) (x1 := .slice a' 16 c') (x2 := .slice none 0 0) HND.out
    rw [hZ]
    refine bodyPost_ret (v := .tuple #[ndV 6 a' 16 c' none 0 0, .bool true]) ?_ rfl ?_
    · rw [results_cellb rfl]
      simp [asAddr, Result.andThen, hnd.load, ndV]
    · exact ⟨a', c', rfl, own_base (hoz (by omega) HO.out) (by omega), HBB.out.trans hbz⟩
end Go.Proofs.YtmncmbbgdkkgaaaGreatDoor

/- address.Parse. Printed by wip/tools/gen_parse.py. -/
import Derived.Test.YtmncmbbgdkkgaaaGreatDoorAd6
namespace Go.Proofs.YtmncmbbgdkkgaaaGreatDoor
set_option maxRecDepth 100000
set_option linter.unusedVariables false
open Go.RowKit

theorem below4 (w : World) (o1 o2 o3 o4 : Obj) : Below w.heap.size w ((((w.alloc o1).alloc o2).alloc o3).alloc o4) :=
  ((((Below.refl _ w).alloc (Nat.le_refl _) o1).alloc (by simp) o2).alloc (by simp; omega) o3).alloc (by simp; omega) o4
theorem nd4 (w : World) (o2 o3 o4 : Obj) : NdB ((((w.alloc (.cells #[.int .u16 0, .slice none 0 0, .slice none 0 0] 26)).alloc o2).alloc o3).alloc o4) w.heap.size (.int .u16 0) (.slice none 0 0) (.slice none 0 0) :=
  (((NdB.new w _ _ _).below ((Below.refl _ _).alloc (Nat.le_refl _) o2) (by simp)).below ((Below.refl _ _).alloc (Nat.le_refl _) o3) (by simp; omega)).below ((Below.refl _ _).alloc (Nat.le_refl _) o4) (by simp; omega)
theorem last4 (w : World) (o1 o2 o3 : Obj) (v : Value) : ((((w.alloc o1).alloc o2).alloc o3).alloc (.cells #[v] bT)).heap[w.heap.size + 1 + 1 + 1]? = some (.cells #[v] bT (0, 0)) := by
  have h : (((w.alloc o1).alloc o2).alloc o3).heap.size = w.heap.size + 1 + 1 + 1 := by simp
  rw [← h]
  exact Array.getElem?_push_size
theorem c3of4 (w : World) (o1 o2 o4 : Obj) (v : Value) (T : TypeId) : ((((w.alloc o1).alloc o2).alloc (.cells #[v] T)).alloc o4).cell? ⟨w.heap.size + 1 + 1, 0, none⟩ = some v := by
  rw [World.cell?_alloc_lt _ _ _ (by simp), World.cell?_alloc_at _ _ _ _ (by simp)]
  rfl
theorem c2of4 (w : World) (o1 o3 o4 : Obj) (v : Value) (T : TypeId) : ((((w.alloc o1).alloc (.cells #[v] T)).alloc o3).alloc o4).cell? ⟨w.heap.size + 1, 0, none⟩ = some v := by
  rw [World.cell?_alloc_lt _ _ _ (by simp <;> omega), World.cell?_alloc_lt _ _ _ (by simp), World.cell?_alloc_at _ _ _ _ (by simp)]
  rfl
def str (ps : List ByteArray) (k : Nat) : ByteArray := ps.getD k ⟨#[]⟩
theorem words_cell (W4 w5 : World) (ws : List ByteArray) (e : TypeId) (h : w5 = W4.alloc (.cells (ws.map Value.string).toArray e)) : ∀ j, j < ws.length → w5.cell? ⟨W4.heap.size, j, none⟩ = some (.string (str ws j)) := by
  intro j hj
  rw [h, World.cell?_alloc_at _ _ _ _ rfl]
  simp [str, List.getD, hj]
set_option maxHeartbeats 8000000 in
theorem parse10 (s : ByteArray) (w : World) (hs : s.size ≤ 1000) (hg : Glob w) (hcont : decide (0 ≤ Lib.indexByte s.data.toList 58) = false)
    (ws : List ByteArray) (hws : ws = Lib.splitB ⟨#[46]⟩ 0 (Lib.countB s ⟨#[46]⟩) s) (N : Nat) (hN : N = Lib.countB s ⟨#[46]⟩ + 1) (hwl : ws.length = N) (hN1 : N ≤ 1001)
    (xs : List Int) (hxl : xs.length = N) (hxr : ∀ j, j < N → ∃ u : Nat, nth xs j = u ∧ u ≤ 65535 ∧ ∀ W, Glob W → Calls Tryz.prog 29 #[.string (str ws j), .int .i64 10, .int .i64 8] W fun e W' => ∃ ev, e = .returned (.tuple #[.int .u64 u, ev]) ∧ Below W.heap.size W W')
    (zs : List Int) (hzs : zs = putL 1 xs) (n : Nat) (hn : n = N * 1) (tx : ByteArray) (T : Int) (hT : T = if n = 4 then 5 else 6)
    (htx : ∀ W a c, Glob W → Ints .u8 W a n c zs → n = 4 ∨ n = 16 → Calls Tryz.prog 17 #[ndV T a n c none 0 0] W fun e W' => e = .returned (.string tx) ∧ Below W.heap.size W W') :
    Calls Tryz.prog 15 #[.string s] w fun e w' => (((n = 4 ∨ n = 16) ∧ tx = s ∧ ∃ a' c', e = .returned (.tuple #[ndV T a' n c' none 0 0, .bool true]) ∧ Ints .u8 w' a' n c' zs) ∨ (¬ ((n = 4 ∨ n = 16) ∧ tx = s) ∧ e = .returned (.tuple #[zeroNode, .bool false]))) ∧ Below w.heap.size w w' := by
  obtain ⟨mm, hmm⟩ := hg.len
  have hpl : zs.length = n := by rw [hzs, putL_length (by omega), hxl, hn]
  have HPL := Lib.hid hpl
  have HG := Lib.hid hg
  have HXR := Lib.hid hxr
  have HXL := Lib.hid hxl
  have HZS := Lib.hid hzs
  have HTX := Lib.hid htx
  have HWS := Lib.hid hws
  have HNN := Lib.hid hN
  have HWL := Lib.hid hwl
  have HNE := Lib.hid hn
  have HTT := Lib.hid hT
  clear hg hxr hzs htx hws hN hwl hn hxl hpl hT
  go_enter Tryz.func15, Tryz.ntmps15
  go_wp2_with fail
  refine (Tryz.strings_Contains_one s 58 _).mono ?_
  rintro e w1 ⟨rfl, rfl⟩
  rw [hcont]
  clear hcont
  go_wp2_with fail
  generalize hW4 : (World.alloc (World.alloc _ _) (Obj.cells #[Value.slice none 0 0] 23)) = W4
  have HB4 := Lib.hid (show Below w.heap.size w W4 by rw [← hW4]; exact below4 w _ _ _ _)
  have hs4 : W4.heap.size = w.heap.size + 4 := by rw [← hW4]; simp
  have HND := Lib.hid (show NdB W4 w.heap.size (.int .u16 0) (.slice none 0 0) (.slice none 0 0) by rw [← hW4]; exact nd4 w _ _ _)
  have c10 : W4.cell? ⟨w.heap.size + 1 + 1, 0, none⟩ = some (.int .i64 10) := by rw [← hW4]; exact c3of4 w _ _ _ _ _
  have csz : W4.cell? ⟨w.heap.size + 1, 0, none⟩ = some (.int .i64 1) := by rw [← hW4]; exact c2of4 w _ _ _ _ _
  have hbb : W4.heap[w.heap.size + 1 + 1 + 1]? = some (.cells #[.slice none 0 0] bT (0, 0)) := by rw [← hW4]; exact last4 w _ _ _ _
  have HBB := Lib.hid hbb
  clear hW4 hbb
  refine (Tryz.strings_Split s ⟨#[46]⟩ mm _ (by omega) (cell_below HB4.out hmm) (by decide)).mono ?_
  rintro e w5 ⟨rfl, hw5⟩
  rw [← HNN.out]
  rw [← HWS.out] at hw5
  have hwc := words_cell W4 w5 ws 9 hw5
  rw [HWL.out, hs4] at hwc
  have HWC := Lib.hid hwc
  have hs5 : w5.heap.size = W4.heap.size + 1 := by rw [hw5]; simp
  have HB45 := Lib.hid (show Below W4.heap.size W4 w5 by rw [hw5]; exact (Below.refl _ _).alloc (Nat.le_refl _) _)
  have HB5 := Lib.hid (HB4.out.trans (HB45.out.mono HB4.out.size))
  have d10 := cell_below HB45.out c10
  have dsz := cell_below HB45.out csz
  have HBB5 := Lib.hid ((HB45.out.block (w.heap.size + 1 + 1 + 1) (by omega)).trans HBB.out)
  have HND5 := Lib.hid (HND.out.below HB45.out (by omega))
  clear hwc hw5 c10 csz
  go_wp2
  go_loopw [20] (fun i wr => ∃ j : Nat, j ≤ N ∧ i = .int .i64 j ∧ ∃ a' c', wr.heap[w.heap.size + 1 + 1 + 1]? = some (.cells #[.slice a' (j * 1) c'] bT (0, 0)) ∧ wr.ownsRow w5.heap.size 5 1 (.slice a' (j * 1) c') (j * 1) ((putL 1 (xs.take j)).map (Value.int .u8)) ∧ ButN (w.heap.size + 1 + 1 + 1) w5.heap.size w5 wr) (fun i _ => N - (intOf i).toNat)
  case atStart => exact ⟨0, Nat.zero_le _, rfl, none, 0, by simpa using HBB5.out, by simpa [putL] using World.ownsRow_nil _ _ _ _, ButN.refl _ _ _⟩
  case round =>
    obtain ⟨j, hj, rfl, a', c', hbb, hown, hbut⟩ := hrel
    have HO := Lib.hid hown
    have HBR := Lib.hid hbb
    have HBU := Lib.hid hbut
    have HW := Lib.hid (HB5.out.trans (hbut.below (B := w.heap.size) (by omega) (by omega)))
    have hszr : w5.heap.size ≤ wr.heap.size := hbut.size
    have e10 := hbut.cell (p := ⟨w.heap.size + 1 + 1, 0, none⟩) (by show w.heap.size + 1 + 1 < _; omega) (by show w.heap.size + 1 + 1 ≠ _; omega) d10
    have esz := hbut.cell (p := ⟨w.heap.size + 1, 0, none⟩) (by show w.heap.size + 1 < _; omega) (by show w.heap.size + 1 ≠ _; omega) dsz
    clear hown hbb
    by_cases hlt : j < N
    · have hcj := hbut.cell (p := ⟨w.heap.size + 4, j, none⟩) (by show w.heap.size + 4 < _; omega) (by show w.heap.size + 4 ≠ _; omega) (HWC.out j hlt)
      obtain ⟨u, hu, hu65, hpu⟩ := HXR.out j hlt
      have hst := Lib.hid (show putL 1 (xs.take (j + 1)) = putL 1 (xs.take j) ++ be 1 (u : Int) by rw [putL_take (by rw [HXL.out]; exact hlt), hu])
      have hadd := add10 (str ws j) u hu65 (w.heap.size + 1 + 1 + 1) (w.heap.size + 1) (w.heap.size + 1 + 1) w5.heap.size a' (j * 1) c' (putL 1 (xs.take j)) wr hpu (HG.out.below HW.out) e10 esz HBR.out HO.out hszr (by omega) (by omega)
      have HADD := Lib.hid hadd
      clear hbut hu hpu hadd
      go_wp2_with fail
      refine HADD.out.mono ?_
      rintro e w6 ⟨rfl, a6, c6, hb6, ho6, hbut6⟩
      rw [← hst.out, show j * 1 + 1 = (j + 1) * 1 by omega] at ho6
      rw [show j * 1 + 1 = (j + 1) * 1 by omega] at hb6
      have HB6 := Lib.hid hb6
      have HO6 := Lib.hid ho6
      have HBU6 := Lib.hid (HBU.out.trans hbut6)
      clear hb6 ho6 hbut6 hst
      go_wp2
      go_roundw
      case rel => exact ⟨j + 1, by omega, by go_num, a6, c6, HB6.out, HO6.out, HBU6.out⟩
      case measure => simp [intOf]; omega
    · obtain rfl : N = j := by omega
      have hT : xs.take N = xs := List.take_of_length_le (by rw [HXL.out]; exact Nat.le_refl _)
      have ho2 := HO.out
      rw [hT, ← HZS.out, ← HNE.out] at ho2
      have hb2 := HBR.out
      rw [← HNE.out] at hb2
      have gb := (b_cell hb2).1
      have HNR := Lib.hid (show NdB wr w.heap.size (.int .u16 0) (.slice none 0 0) (.slice none 0 0) from (hbut.block w.heap.size (by omega) (by omega)).trans HND5.out)
      have HIN := Lib.hid (ints_ofB ho2)
      have hlt0 : w.heap.size < wr.heap.size := by omega
      clear hbut hT ho2 hb2 e10 esz d10 dsz HO HBR HXR
      by_cases h416 : n = 4 ∨ n = 16
      · have H416 := Lib.hid h416
        go_wp2_with fail
        refine (of_yes a' n c' zs _ HIN.out H416.out).mono ?_
        rintro e w7 ⟨a7, c7, rfl, ho7, hb7⟩
        rw [← HTT.out]
        unfold ndV
        have hbn : Below w7.heap.size w7 (w7.alloc (.cells #[.int .u16 T, .slice a7 n c7, .slice none 0 0] 26)) := (Below.refl _ _).alloc (Nat.le_refl _) _
        have HO8 := Lib.hid (own_below ho7 hbn)
        have HW8 := Lib.hid ((HW.out.trans (hb7.mono HW.out.size)).trans (hbn.mono (Nat.le_trans HW.out.size hb7.size)))
        have hlt7 : w.heap.size < w7.heap.size := Nat.lt_of_lt_of_le hlt0 hb7.size
        have HN8 := Lib.hid ((HNR.out.below hb7 hlt0).below hbn hlt7)
        have HM8 := Lib.hid (NdB.new w7 (.int .u16 T) (.slice a7 n c7) (.slice none 0 0))
        have htx8 := Lib.hid (HTX.out _ a7 c7 (HG.out.below HW8.out) (ints_ofB HO8.out) h416)
        clear ho7 hb7 hbn h416
        go_wp2_with fail
        refine htx8.out.mono ?_
        rintro e w9 ⟨rfl, hb9⟩
        have HO9 := Lib.hid (own_below HO8.out hb9)
        have HW9 := Lib.hid (HW8.out.trans (hb9.mono HW8.out.size))
        have HN9 := Lib.hid (HN8.out.below hb9 (by simp; omega))
        have HM9 := Lib.hid (HM8.out.below hb9 (by simp))
        obtain ⟨q0, q1, q2⟩ := HN9.out.cell
        have f0 := HN9.out.free 0
        have f1 := HN9.out.free 1
        have f2 := HN9.out.free 2
        obtain ⟨r0, r1, r2⟩ := HM9.out.cell
        clear hb9 gb
        by_cases hts : tx = s
        · have hne : (tx.toList == s.toList) = true := by rw [hts]; simp
          have HTS := Lib.hid hts
          clear hts
          go_wp2
          obtain ⟨Z, hZ, hnd, hbz, hoz⟩ := set3 (x0 := .int .u16 T) (x1 := .slice a7 n c7) (x2 := .slice none 0 0) HN9.out
          rw [hZ]
          refine bodyPost_ret (v := .tuple #[ndV T a7 n c7 none 0 0, .bool true]) ?_ rfl ?_
          · rw [results_cellb rfl]
            simp [asAddr, Result.andThen, hnd.load, ndV]
          · exact ⟨.inl ⟨H416.out, HTS.out, a7, c7, rfl, ints_ofB (hoz hlt0 HO9.out)⟩, HW9.out.trans hbz⟩
        · have hne : (tx.toList == s.toList) = false := by
            rw [beq_eq_false_iff_ne, Lib.toList_data, Lib.toList_data]
            intro he
            exact hts (ByteArray.ext (Array.toList_inj.1 he))
          have HTS := Lib.hid hts
          clear hts r0 r1 r2
          go_wp2
          obtain ⟨Z, hZ, hnd, hbz, hoz⟩ := set3 (x0 := .int .u16 0) (x1 := .slice none 0 0) (x2 := .slice none 0 0) HN9.out
          rw [hZ]
          refine bodyPost_ret (v := .tuple #[zeroNode, .bool false]) ?_ rfl ?_
          · rw [results_cellb rfl, show zeroNode = .agg #[.int .u16 0, .slice none 0 0, .slice none 0 0] from rfl]
            simp [asAddr, Result.andThen, hnd.load]
          · exact ⟨.inr ⟨fun h => HTS.out h.2, rfl⟩, HW9.out.trans hbz⟩
      · have H416 := Lib.hid h416
        go_wp2_with fail
        refine (of_no a' n c' _ (fun h => H416.out (.inl h)) (fun h => H416.out (.inr h))).mono ?_
        rintro e w7 ⟨rfl, hb7⟩
        unfold zeroNode ndV
        have hbn : Below w7.heap.size w7 (w7.alloc (.cells #[.int .u16 0, .slice none 0 0, .slice none 0 0] 26)) := (Below.refl _ _).alloc (Nat.le_refl _) _
        have hlt7 : w.heap.size < w7.heap.size := Nat.lt_of_lt_of_le hlt0 hb7.size
        have HW8 := Lib.hid ((HW.out.trans (hb7.mono HW.out.size)).trans (hbn.mono (Nat.le_trans HW.out.size hb7.size)))
        have HN7 := Lib.hid (HNR.out.below hb7 hlt0)
        have HW7 := Lib.hid (HW.out.trans (hb7.mono HW.out.size))
        have HN8 := Lib.hid (HN7.out.below hbn hlt7)
        obtain ⟨q0, q1, q2⟩ := HN7.out.cell
        have f0 := HN7.out.free 0
        have f1 := HN7.out.free 1
        have f2 := HN7.out.free 2
        clear hb7 hbn gb h416
        go_wp2
        obtain ⟨Z, hZ, hnd, hbz, hoz⟩ := set3 (x0 := .int .u16 0) (x1 := .slice none 0 0) (x2 := .slice none 0 0) HN7.out
        rw [hZ]
        have hbz2 : Below w.heap.size Z (Z.alloc (.cells #[.int .u16 0, .slice none 0 0, .slice none 0 0] 26)) := (Below.refl _ _).alloc (Nat.le_trans (Nat.le_of_lt hlt7) hbz.size) _
        have hnd2 := hnd.below ((Below.refl Z.heap.size Z).alloc (Nat.le_refl _) (.cells #[.int .u16 0, .slice none 0 0, .slice none 0 0] 26)) hnd.lt
        refine bodyPost_ret (v := .tuple #[zeroNode, .bool false]) ?_ rfl ?_
        · rw [results_cellb rfl, show zeroNode = .agg #[.int .u16 0, .slice none 0 0, .slice none 0 0] from rfl]
          simp [asAddr, Result.andThen, hnd2.load]
        · exact ⟨.inr ⟨fun h => H416.out h.1, rfl⟩, (HW7.out.trans hbz).trans hbz2⟩
set_option maxHeartbeats 8000000 in
theorem parse16 (s : ByteArray) (w : World) (hs : s.size ≤ 1000) (hg : Glob w) (hcont : decide (0 ≤ Lib.indexByte s.data.toList 58) = true)
    (ws : List ByteArray) (hws : ws = Lib.splitB ⟨#[58]⟩ 0 (Lib.countB s ⟨#[58]⟩) s) (N : Nat) (hN : N = Lib.countB s ⟨#[58]⟩ + 1) (hwl : ws.length = N) (hN1 : N ≤ 1001)
    (xs : List Int) (hxl : xs.length = N) (hxr : ∀ j, j < N → ∃ u : Nat, nth xs j = u ∧ u ≤ 65535 ∧ ∀ W, Glob W → Calls Tryz.prog 29 #[.string (str ws j), .int .i64 16, .int .i64 16] W fun e W' => ∃ ev, e = .returned (.tuple #[.int .u64 u, ev]) ∧ Below W.heap.size W W')
    (zs : List Int) (hzs : zs = putL 2 xs) (n : Nat) (hn : n = N * 2) (tx : ByteArray) (T : Int) (hT : T = if n = 4 then 5 else 6)
    (htx : ∀ W a c, Glob W → Ints .u8 W a n c zs → n = 4 ∨ n = 16 → Calls Tryz.prog 17 #[ndV T a n c none 0 0] W fun e W' => e = .returned (.string tx) ∧ Below W.heap.size W W') :
    Calls Tryz.prog 15 #[.string s] w fun e w' => (((n = 4 ∨ n = 16) ∧ tx = s ∧ ∃ a' c', e = .returned (.tuple #[ndV T a' n c' none 0 0, .bool true]) ∧ Ints .u8 w' a' n c' zs) ∨ (¬ ((n = 4 ∨ n = 16) ∧ tx = s) ∧ e = .returned (.tuple #[zeroNode, .bool false]))) ∧ Below w.heap.size w w' := by
  obtain ⟨mm, hmm⟩ := hg.len
  have hpl : zs.length = n := by rw [hzs, putL_length (by omega), hxl, hn]
  have HPL := Lib.hid hpl
  have HG := Lib.hid hg
  have HXR := Lib.hid hxr
  have HXL := Lib.hid hxl
  have HZS := Lib.hid hzs
  have HTX := Lib.hid htx
  have HWS := Lib.hid hws
  have HNN := Lib.hid hN
  have HWL := Lib.hid hwl
  have HNE := Lib.hid hn
  have HTT := Lib.hid hT
  clear hg hxr hzs htx hws hN hwl hn hxl hpl hT
  go_enter Tryz.func15, Tryz.ntmps15
  go_wp2_with fail
  refine (Tryz.strings_Contains_one s 58 _).mono ?_
  rintro e w1 ⟨rfl, rfl⟩
  rw [hcont]
  clear hcont
  go_wp2_with fail
  generalize hW4 : (World.alloc (World.alloc _ _) (Obj.cells #[Value.slice none 0 0] 23)) = W4
  have HB4 := Lib.hid (show Below w.heap.size w W4 by rw [← hW4]; exact below4 w _ _ _ _)
  have hs4 : W4.heap.size = w.heap.size + 4 := by rw [← hW4]; simp
  have HND := Lib.hid (show NdB W4 w.heap.size (.int .u16 0) (.slice none 0 0) (.slice none 0 0) by rw [← hW4]; exact nd4 w _ _ _)
  have c10 : W4.cell? ⟨w.heap.size + 1 + 1, 0, none⟩ = some (.int .i64 16) := by rw [← hW4]; exact c3of4 w _ _ _ _ _
  have csz : W4.cell? ⟨w.heap.size + 1, 0, none⟩ = some (.int .i64 2) := by rw [← hW4]; exact c2of4 w _ _ _ _ _
  have hbb : W4.heap[w.heap.size + 1 + 1 + 1]? = some (.cells #[.slice none 0 0] bT (0, 0)) := by rw [← hW4]; exact last4 w _ _ _ _
  have HBB := Lib.hid hbb
  clear hW4 hbb
  refine (Tryz.strings_Split s ⟨#[58]⟩ mm _ (by omega) (cell_below HB4.out hmm) (by decide)).mono ?_
  rintro e w5 ⟨rfl, hw5⟩
  rw [← HNN.out]
  rw [← HWS.out] at hw5
  have hwc := words_cell W4 w5 ws 9 hw5
  rw [HWL.out, hs4] at hwc
  have HWC := Lib.hid hwc
  have hs5 : w5.heap.size = W4.heap.size + 1 := by rw [hw5]; simp
  have HB45 := Lib.hid (show Below W4.heap.size W4 w5 by rw [hw5]; exact (Below.refl _ _).alloc (Nat.le_refl _) _)
  have HB5 := Lib.hid (HB4.out.trans (HB45.out.mono HB4.out.size))
  have d10 := cell_below HB45.out c10
  have dsz := cell_below HB45.out csz
  have HBB5 := Lib.hid ((HB45.out.block (w.heap.size + 1 + 1 + 1) (by omega)).trans HBB.out)
  have HND5 := Lib.hid (HND.out.below HB45.out (by omega))
  clear hwc hw5 c10 csz
  go_wp2
  go_loopw [20] (fun i wr => ∃ j : Nat, j ≤ N ∧ i = .int .i64 j ∧ ∃ a' c', wr.heap[w.heap.size + 1 + 1 + 1]? = some (.cells #[.slice a' (j * 2) c'] bT (0, 0)) ∧ wr.ownsRow w5.heap.size 5 1 (.slice a' (j * 2) c') (j * 2) ((putL 2 (xs.take j)).map (Value.int .u8)) ∧ ButN (w.heap.size + 1 + 1 + 1) w5.heap.size w5 wr) (fun i _ => N - (intOf i).toNat)
  case atStart => exact ⟨0, Nat.zero_le _, rfl, none, 0, by simpa using HBB5.out, by simpa [putL] using World.ownsRow_nil _ _ _ _, ButN.refl _ _ _⟩
  case round =>
    obtain ⟨j, hj, rfl, a', c', hbb, hown, hbut⟩ := hrel
    have HO := Lib.hid hown
    have HBR := Lib.hid hbb
    have HBU := Lib.hid hbut
    have HW := Lib.hid (HB5.out.trans (hbut.below (B := w.heap.size) (by omega) (by omega)))
    have hszr : w5.heap.size ≤ wr.heap.size := hbut.size
    have e10 := hbut.cell (p := ⟨w.heap.size + 1 + 1, 0, none⟩) (by show w.heap.size + 1 + 1 < _; omega) (by show w.heap.size + 1 + 1 ≠ _; omega) d10
    have esz := hbut.cell (p := ⟨w.heap.size + 1, 0, none⟩) (by show w.heap.size + 1 < _; omega) (by show w.heap.size + 1 ≠ _; omega) dsz
    clear hown hbb
    by_cases hlt : j < N
    · have hcj := hbut.cell (p := ⟨w.heap.size + 4, j, none⟩) (by show w.heap.size + 4 < _; omega) (by show w.heap.size + 4 ≠ _; omega) (HWC.out j hlt)
      obtain ⟨u, hu, hu65, hpu⟩ := HXR.out j hlt
      have hst := Lib.hid (show putL 2 (xs.take (j + 1)) = putL 2 (xs.take j) ++ be 2 (u : Int) by rw [putL_take (by rw [HXL.out]; exact hlt), hu])
      have hadd := add16 (str ws j) u hu65 (w.heap.size + 1 + 1 + 1) (w.heap.size + 1) (w.heap.size + 1 + 1) w5.heap.size a' (j * 2) c' (putL 2 (xs.take j)) wr hpu (HG.out.below HW.out) e10 esz HBR.out HO.out hszr (by omega) (by omega)
      have HADD := Lib.hid hadd
      clear hbut hu hpu hadd
      go_wp2_with fail
      refine HADD.out.mono ?_
      rintro e w6 ⟨rfl, a6, c6, hb6, ho6, hbut6⟩
      rw [← hst.out, show j * 2 + 2 = (j + 1) * 2 by omega] at ho6
      rw [show j * 2 + 2 = (j + 1) * 2 by omega] at hb6
      have HB6 := Lib.hid hb6
      have HO6 := Lib.hid ho6
      have HBU6 := Lib.hid (HBU.out.trans hbut6)
      clear hb6 ho6 hbut6 hst
      go_wp2
      go_roundw
      case rel => exact ⟨j + 1, by omega, by go_num, a6, c6, HB6.out, HO6.out, HBU6.out⟩
      case measure => simp [intOf]; omega
    · obtain rfl : N = j := by omega
      have hT : xs.take N = xs := List.take_of_length_le (by rw [HXL.out]; exact Nat.le_refl _)
      have ho2 := HO.out
      rw [hT, ← HZS.out, ← HNE.out] at ho2
      have hb2 := HBR.out
      rw [← HNE.out] at hb2
      have gb := (b_cell hb2).1
      have HNR := Lib.hid (show NdB wr w.heap.size (.int .u16 0) (.slice none 0 0) (.slice none 0 0) from (hbut.block w.heap.size (by omega) (by omega)).trans HND5.out)
      have HIN := Lib.hid (ints_ofB ho2)
      have hlt0 : w.heap.size < wr.heap.size := by omega
      clear hbut hT ho2 hb2 e10 esz d10 dsz HO HBR HXR
      by_cases h416 : n = 4 ∨ n = 16
      · have H416 := Lib.hid h416
        go_wp2_with fail
        refine (of_yes a' n c' zs _ HIN.out H416.out).mono ?_
        rintro e w7 ⟨a7, c7, rfl, ho7, hb7⟩
        rw [← HTT.out]
        unfold ndV
        have hbn : Below w7.heap.size w7 (w7.alloc (.cells #[.int .u16 T, .slice a7 n c7, .slice none 0 0] 26)) := (Below.refl _ _).alloc (Nat.le_refl _) _
        have HO8 := Lib.hid (own_below ho7 hbn)
        have HW8 := Lib.hid ((HW.out.trans (hb7.mono HW.out.size)).trans (hbn.mono (Nat.le_trans HW.out.size hb7.size)))
        have hlt7 : w.heap.size < w7.heap.size := Nat.lt_of_lt_of_le hlt0 hb7.size
        have HN8 := Lib.hid ((HNR.out.below hb7 hlt0).below hbn hlt7)
        have HM8 := Lib.hid (NdB.new w7 (.int .u16 T) (.slice a7 n c7) (.slice none 0 0))
        have htx8 := Lib.hid (HTX.out _ a7 c7 (HG.out.below HW8.out) (ints_ofB HO8.out) h416)
        clear ho7 hb7 hbn h416
        go_wp2_with fail
        refine htx8.out.mono ?_
        rintro e w9 ⟨rfl, hb9⟩
        have HO9 := Lib.hid (own_below HO8.out hb9)
        have HW9 := Lib.hid (HW8.out.trans (hb9.mono HW8.out.size))
        have HN9 := Lib.hid (HN8.out.below hb9 (by simp; omega))
        have HM9 := Lib.hid (HM8.out.below hb9 (by simp))
        obtain ⟨q0, q1, q2⟩ := HN9.out.cell
        have f0 := HN9.out.free 0
        have f1 := HN9.out.free 1
        have f2 := HN9.out.free 2
        obtain ⟨r0, r1, r2⟩ := HM9.out.cell
        clear hb9 gb
        by_cases hts : tx = s
        · have hne : (tx.toList == s.toList) = true := by rw [hts]; simp
          have HTS := Lib.hid hts
          clear hts
          go_wp2
          obtain ⟨Z, hZ, hnd, hbz, hoz⟩ := set3 (x0 := .int .u16 T) (x1 := .slice a7 n c7) (x2 := .slice none 0 0) HN9.out
          rw [hZ]
          refine bodyPost_ret (v := .tuple #[ndV T a7 n c7 none 0 0, .bool true]) ?_ rfl ?_
          · rw [results_cellb rfl]
            simp [asAddr, Result.andThen, hnd.load, ndV]
          · exact ⟨.inl ⟨H416.out, HTS.out, a7, c7, rfl, ints_ofB (hoz hlt0 HO9.out)⟩, HW9.out.trans hbz⟩
        · have hne : (tx.toList == s.toList) = false := by
            rw [beq_eq_false_iff_ne, Lib.toList_data, Lib.toList_data]
            intro he
            exact hts (ByteArray.ext (Array.toList_inj.1 he))
          have HTS := Lib.hid hts
          clear hts r0 r1 r2
          go_wp2
          obtain ⟨Z, hZ, hnd, hbz, hoz⟩ := set3 (x0 := .int .u16 0) (x1 := .slice none 0 0) (x2 := .slice none 0 0) HN9.out
          rw [hZ]
          refine bodyPost_ret (v := .tuple #[zeroNode, .bool false]) ?_ rfl ?_
          · rw [results_cellb rfl, show zeroNode = .agg #[.int .u16 0, .slice none 0 0, .slice none 0 0] from rfl]
            simp [asAddr, Result.andThen, hnd.load]
          · exact ⟨.inr ⟨fun h => HTS.out h.2, rfl⟩, HW9.out.trans hbz⟩
      · have H416 := Lib.hid h416
        go_wp2_with fail
        refine (of_no a' n c' _ (fun h => H416.out (.inl h)) (fun h => H416.out (.inr h))).mono ?_
        rintro e w7 ⟨rfl, hb7⟩
        unfold zeroNode ndV
        have hbn : Below w7.heap.size w7 (w7.alloc (.cells #[.int .u16 0, .slice none 0 0, .slice none 0 0] 26)) := (Below.refl _ _).alloc (Nat.le_refl _) _
        have hlt7 : w.heap.size < w7.heap.size := Nat.lt_of_lt_of_le hlt0 hb7.size
        have HW8 := Lib.hid ((HW.out.trans (hb7.mono HW.out.size)).trans (hbn.mono (Nat.le_trans HW.out.size hb7.size)))
        have HN7 := Lib.hid (HNR.out.below hb7 hlt0)
        have HW7 := Lib.hid (HW.out.trans (hb7.mono HW.out.size))
        have HN8 := Lib.hid (HN7.out.below hbn hlt7)
        obtain ⟨q0, q1, q2⟩ := HN7.out.cell
        have f0 := HN7.out.free 0
        have f1 := HN7.out.free 1
        have f2 := HN7.out.free 2
        clear hb7 hbn gb h416
        go_wp2
        obtain ⟨Z, hZ, hnd, hbz, hoz⟩ := set3 (x0 := .int .u16 0) (x1 := .slice none 0 0) (x2 := .slice none 0 0) HN7.out
        rw [hZ]
        have hbz2 : Below w.heap.size Z (Z.alloc (.cells #[.int .u16 0, .slice none 0 0, .slice none 0 0] 26)) := (Below.refl _ _).alloc (Nat.le_trans (Nat.le_of_lt hlt7) hbz.size) _
        have hnd2 := hnd.below ((Below.refl Z.heap.size Z).alloc (Nat.le_refl _) (.cells #[.int .u16 0, .slice none 0 0, .slice none 0 0] 26)) hnd.lt
        refine bodyPost_ret (v := .tuple #[zeroNode, .bool false]) ?_ rfl ?_
        · rw [results_cellb rfl, show zeroNode = .agg #[.int .u16 0, .slice none 0 0, .slice none 0 0] from rfl]
          simp [asAddr, Result.andThen, hnd2.load]
        · exact ⟨.inr ⟨fun h => H416.out h.1, rfl⟩, (HW7.out.trans hbz).trans hbz2⟩
end Go.Proofs.YtmncmbbgdkkgaaaGreatDoor

/- The law's same; address.Types of one address. -/
import Derived.Test.YtmncmbbgdkkgaaaGreatDoorAd11
namespace Go.Proofs.YtmncmbbgdkkgaaaGreatDoor
set_option maxRecDepth 100000
set_option linter.unusedVariables false
open Go.RowKit

set_option maxHeartbeats 4000000 in
theorem same9_any (t1 t2 : Int) (a1 a2 k1 k2 : Option Addr) (n1 c1 d1 n2 c2 d2 : Nat) (xs ys : List Int) (w : World) (hx : Ints .u8 w a1 n1 c1 xs) (hy : Ints .u8 w a2 n2 c2 ys) :
    Calls Tryz.prog 10 #[ndV t1 a1 n1 c1 k1 0 d1, ndV t2 a2 n2 c2 k2 0 d2] w fun e w' => e = .returned (.bool (t1 == t2 && eqL xs ys)) ∧ Below w.heap.size w w' := by
  have HB := Lib.hid (below4 w (.cells #[.int .u16 t1, .slice a1 n1 c1, .slice k1 0 d1] 26) (.cells #[.int .u16 t2, .slice a2 n2 c2, .slice k2 0 d2] 26) (.cells #[.int .u16 t1, .slice a1 n1 c1, .slice k1 0 d1] 26) (.cells #[.int .u16 t2, .slice a2 n2 c2, .slice k2 0 d2] 26))
  have HX := Lib.hid (hx.below HB.out)
  have HY := Lib.hid (hy.below HB.out)
  clear hx hy
  unfold ndV
  go_enter Tryz.func10, Tryz.ntmps10
  go_wp2_with fail
  obtain ⟨W, hW⟩ : ∃ W, W = ((((w.alloc (.cells #[.int .u16 t1, .slice a1 n1 c1, .slice k1 0 d1] 26)).alloc (.cells #[.int .u16 t2, .slice a2 n2 c2, .slice k2 0 d2] 26)).alloc (.cells #[.int .u16 t1, .slice a1 n1 c1, .slice k1 0 d1] 26)).alloc (.cells #[.int .u16 t2, .slice a2 n2 c2, .slice k2 0 d2] 26)) := ⟨_, rfl⟩
  have h1 : NdB W (w.heap.size + 1 + 1) (.int .u16 t1) (.slice a1 n1 c1) (.slice k1 0 d1) := by
    rw [hW]
    have h := (NdB.new ((w.alloc (.cells #[.int .u16 t1, .slice a1 n1 c1, .slice k1 0 d1] 26)).alloc (.cells #[.int .u16 t2, .slice a2 n2 c2, .slice k2 0 d2] 26)) (.int .u16 t1) (.slice a1 n1 c1) (.slice k1 0 d1)).below ((Below.refl _ _).alloc (Nat.le_refl _) (.cells #[.int .u16 t2, .slice a2 n2 c2, .slice k2 0 d2] 26)) (by simp)
    simpa using h
  have h2 : NdB W (w.heap.size + 1 + 1 + 1) (.int .u16 t2) (.slice a2 n2 c2) (.slice k2 0 d2) := by
    rw [hW]
    have h := NdB.new (((w.alloc (.cells #[.int .u16 t1, .slice a1 n1 c1, .slice k1 0 d1] 26)).alloc (.cells #[.int .u16 t2, .slice a2 n2 c2, .slice k2 0 d2] 26)).alloc (.cells #[.int .u16 t1, .slice a1 n1 c1, .slice k1 0 d1] 26)) (.int .u16 t2) (.slice a2 n2 c2) (.slice k2 0 d2)
    simpa using h
  rw [← hW] at HB HX HY ⊢
  clear hW
  refine (refsame_one _ _ t1 t2 a1 a2 k1 k2 n1 c1 d1 n2 c2 d2 xs ys W HX.out HY.out h1 h2).mono ?_
  rintro e w1 ⟨rfl, hb⟩
  have HW := Lib.hid (HB.out.trans (hb.mono HB.out.size))
  clear hb h1 h2
  go_wp2
  go_ret
  exact ⟨rfl, HW.out⟩

theorem sort_one (a : Option Addr) (c : Nat) (w : World) : Calls Tryz.prog 37 #[.slice a 1 c] w fun e w' => e = .returned (.tuple #[]) ∧ ∃ q, w' = w.drewN q := by
  have hins : Calls Tryz.prog 79 #[.slice a 1 c, .int .i64 0, .int .i64 1] w fun e w' => e = .returned (.tuple #[]) ∧ w' = w := by
    go_enter Tryz.func79, Tryz.ntmps79
    go_wp2
    go_loopw [6] (fun i wl => i = .int .i64 1 ∧ wl = w) (fun _ _ => 0)
    case atStart => exact ⟨rfl, rfl⟩
    case round =>
      obtain ⟨rfl, rfl⟩ := hrel
      go_wp2
      go_end0
      exact ⟨rfl, rfl⟩
  have hpdq : ∀ lim : Int, Calls Tryz.prog 55 #[.slice a 1 c, .int .i64 0, .int .i64 1, .int .i64 lim] w fun e w' => e = .returned (.tuple #[]) ∧ w' = w := by
    intro lim
    go_enter Tryz.func55, Tryz.ntmps55
    go_wp2
    go_loopw [1, 2, 3, 8, 9] (fun x1 x2 x3 x8 x9 wl => x1 = .int .i64 0 ∧ x2 = .int .i64 1 ∧ x3 = .int .i64 lim ∧ x8 = .bool true ∧ x9 = .bool true ∧ wl = w) (fun _ _ _ _ _ _ => 0)
    case atStart => exact ⟨rfl, rfl, rfl, rfl, rfl, rfl⟩
    case round =>
      obtain ⟨rfl, rfl, rfl, rfl, rfl, rfl⟩ := hrel
      go_wp2_with (go_at_call 79; refine hins.mono ?_; rintro e w' ⟨rfl, rfl⟩)
      refine bodyPost_ret (results_none rfl _ _ _) rfl ?_
      exact ⟨rfl, rfl⟩
  go_enter Tryz.func37, Tryz.ntmps37
  go_wp2_with (first | (go_at_call 56; refine (Tryz.bits_Len 1 _ (by omega) (by omega)).mono ?_; rintro e w' ⟨rfl, rfl⟩) | (go_at_call 55; refine (hpdq _).mono ?_; rintro e w' ⟨rfl, rfl⟩))
  go_end0
  exact ⟨rfl, 0, rfl⟩
theorem compact_one (a : Option Addr) (c : Nat) (w : World) : Calls Tryz.prog 38 #[.slice a 1 c] w fun e w' => e = .returned (.slice a 1 c) ∧ w' = w := by
  go_enter Tryz.func38, Tryz.ntmps38
  go_wp2
  go_ret
  exact ⟨rfl, rfl⟩
theorem put_five (a : Option Addr) (c : Nat) (w : World) (hx : Ints .u32 w a 1 c [5]) :
    Calls Tryz.prog 30 #[.int .i64 2, .slice a 1 c] w fun e w' => ∃ a' c', e = .returned (.slice a' 2 c') ∧ w'.ownsRow w.heap.size 5 1 (.slice a' 2 c') 2 (([0, 5] : List Int).map (Value.int .u8)) ∧ Below w.heap.size w w' := by
  have hz : putZ 2 [5] = [0, 5] := by decide +kernel
  have h := put_any 2 a 1 c [5] w hx (fun y hy => by simp at hy; omega) (by omega)
  rw [hz] at h
  refine h.mono ?_
  rintro e w' ⟨a', c', rfl, ho, hb⟩
  exact ⟨a', c', rfl, ho, hb⟩
set_option maxHeartbeats 4000000 in
theorem types_one (b : Nat) (a k : Option Addr) (c d : Nat) (xs : List Int) (w : World) (hx : Ints .u8 w a 4 c xs) (bx : Byt xs) (hn : NdB w b (.int .u16 5) (.slice a 4 c) (.slice k 0 d)) :
    Calls Tryz.prog 18 #[.slice (some ⟨b, 0, none⟩) 1 1] w fun e w' => ∃ a' c', e = .returned (ndV 12 a' 2 c' none 0 0) ∧ Ints .u8 w' a' 2 c' [0, 5] ∧ Below w.heap.size w w' := by
  obtain ⟨i0, hi, hz0, hz1, hz2⟩ := info_parts info_u32
  have HX := Lib.hid hx
  have HN := Lib.hid hn
  clear hx hn
  go_enter Tryz.func18, Tryz.ntmps18
  go_wp2
  obtain ⟨W, hW⟩ : ∃ W, w.alloc (.cells #[.int .u16 0, .slice none 0 0, .slice none 0 0] 26) = W := ⟨_, rfl⟩
  rw [hW]
  have HR := Lib.hid (show NdB W w.heap.size _ _ _ from hW ▸ NdB.new w (.int .u16 0) (.slice none 0 0) (.slice none 0 0))
  have HB := Lib.hid (show Below w.heap.size w W from hW ▸ (Below.refl _ w).alloc (Nat.le_refl _) _)
  have hsz : W.heap.size = w.heap.size + 1 := by rw [← hW]; simp
  clear hW
  go_loopw [3, 10] (fun o i wl => (o = .slice none 0 0 ∧ i = .int .i64 0 ∧ wl = W) ∨ (∃ v, o = v ∧ i = .int .i64 1 ∧ wl.ownsRow W.heap.size 56 1 v 1 [.int .u32 5] ∧ Below W.heap.size W wl)) (fun _ i _ => 1 - (intOf i).toNat)
  case atStart => exact .inl ⟨rfl, rfl, rfl⟩
  case round =>
    rcases hrel with ⟨rfl, rfl, rfl⟩ | ⟨v, rfl, rfl, ho, hbl⟩
    · obtain ⟨p0, p1, p2⟩ := (HN.out.below HB.out HN.out.lt).cell
      have hlt := HN.out.lt
      go_wp2_with fail
      have HB5 := Lib.hid ((Below.refl _ wr).alloc (Nat.le_refl _) (.cells #[.int .u16 5, .slice a 4 c, .slice k 0 d] 26))
      have HN5 := Lib.hid (NdB.new wr (.int .u16 5) (.slice a 4 c) (.slice k 0 d))
      rw [show Value.agg #[.int .u16 5, .slice a 4 c, .slice k 0 d] = ndV 5 a 4 c k 0 d from rfl]
      refine (bytes_yes 5 a 4 c k 0 d xs _ (HX.out.below (HB.out.trans (HB5.out.mono (by omega)))) bx rfl).mono ?_
      rintro e w1 ⟨a', c', rfl, -, hb1⟩
      unfold ndV
      have HB1 := Lib.hid (HB5.out.trans (hb1.mono HB5.out.size))
      have q := (HN5.out.below hb1 (by simp)).cell
      rw [hsz] at q
      obtain ⟨q0, q1, q2⟩ := q
      clear hb1 p0 p1 p2 HN5
      go_wp2_with (at_builtin; refine append_own_any _ rfl _ _ 64 rfl wr.heap.size 56 i0 (.int .u32 0) 4 Tryz.underlying64 hi hz0 hz1 hz2 rfl (.slice none 0 0) 0 [] rfl (World.ownsRow_nil _ _ _ _) (some ⟨w1.heap.size, 0, none⟩) 1 1 [.int .u32 5] rfl (Sl.new _ _ _ 1 rfl (by omega)) (by simp [Value.oneCell']) (by unfold maxLen; omega) (by omega) (by have := HB1.out.size; simp; omega) ?_; intro v' w2 ho2 hg2)
      go_roundw
      case rel =>
        refine .inr ⟨_, rfl, rfl, ho2.out, ?_⟩
        exact (HB1.out.alloc HB1.out.size _).trans ((Below.refl wr.heap.size _).grown hg2.out (by have := HB1.out.size; simp; omega) (fun k hk => by cases hk))
      case measure => simp [intOf]
    · obtain ⟨a5, c5, rfl, h5⟩ := Ints.own (k := .u32) (zs := [5]) ho
      have HO := Lib.hid h5
      have HW := Lib.hid (HB.out.trans (hbl.mono HB.out.size))
      have HRR := Lib.hid (HR.out.below hbl (by omega))
      clear ho hbl HR h5
      go_wp2_with (first | (go_at_call 37; refine (sort_one a5 c5 _).mono ?_; rintro e w6 ⟨rfl, q6, rfl⟩) | (go_at_call 38; refine (compact_one a5 c5 _).mono ?_; rintro e w7 ⟨rfl, rfl⟩))
      have hq : Below wr.heap.size wr (wr.drewN q6) := ⟨rfl, rfl, rfl, Nat.le_refl _, fun _ _ => rfl⟩
      refine (put_five a5 c5 _ (HO.out.below hq)).mono ?_
      rintro e w8 ⟨a8, c8, rfl, hi8, hb8⟩
      have HI8 := Lib.hid hi8
      have HB8 := Lib.hid (hq.trans (hb8.mono hq.size))
      have HW8 := Lib.hid (HW.out.trans (HB8.out.mono HW.out.size))
      have hlt0 : w.heap.size < wr.heap.size := HRR.out.lt
      have HR8 := Lib.hid (HRR.out.below HB8.out hlt0)
      have q := HR8.out.cell
      obtain ⟨q0, q1, q2⟩ := q
      have f0 := HR8.out.free 0
      have f1 := HR8.out.free 1
      have f2 := HR8.out.free 2
      clear hq hi8 hb8
      go_wp2
      obtain ⟨Z, hZ, hnd, hbz, hoz⟩ := set3 (x0 := .int .u16 12) (x1 := .slice a8 2 c8) (x2 := .slice none 0 0) HR8.out
      rw [hZ]
      refine bodyPost_ret (v := ndV 12 a8 2 c8 none 0 0) ?_ rfl ?_
      · rw [results_cell1 rfl]
        simp [asAddr, Result.andThen, hnd.load, ndV]
      · refine ⟨a8, c8, rfl, ?_, HW8.out.trans hbz⟩
        exact ints_ofB (hoz (show w.heap.size < (wr.drewN q6).heap.size from hlt0) HI8.out)
end Go.Proofs.YtmncmbbgdkkgaaaGreatDoor

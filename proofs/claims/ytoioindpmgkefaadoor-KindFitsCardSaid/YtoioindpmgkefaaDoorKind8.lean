/- The walks of KindMatchesReference, KindNames, KindTypes and KindFits. -/
import Derived.Test.YtoioindpmgkefaaDoorKind7
namespace Go.Proofs.YtoioindpmgkefaaDoor
open Go.RowKit

theorem rowAt_new (w w2 : World) (t : TypeId) (i B : Nat) (hB : B = w.heap.size) (hb : Below (B + 1) (w.alloc (.cells #[.int .u8 (kty i), .string (kname i), .int .u8 (kmask i), .int .i64 (kleast i), .int .i64 (kmost i), .int .i64 (kunit i), .int .i64 (kkids i)] t)) w2) :
    w2.cell? ⟨B, 0, none⟩ = some (.int .u8 (kty i)) ∧ w2.cell? ⟨B, 1, none⟩ = some (.string (kname i)) ∧ w2.cell? ⟨B, 2, none⟩ = some (.int .u8 (kmask i)) ∧ w2.cell? ⟨B, 3, none⟩ = some (.int .i64 (kleast i)) ∧
    w2.cell? ⟨B, 4, none⟩ = some (.int .i64 (kmost i)) ∧ w2.cell? ⟨B, 5, none⟩ = some (.int .i64 (kunit i)) ∧ w2.cell? ⟨B, 6, none⟩ = some (.int .i64 (kkids i)) := by
  subst hB
  have e : ∀ j, w2.cell? ⟨w.heap.size, j, none⟩ = #[Value.int .u8 (kty i), .string (kname i), .int .u8 (kmask i), .int .i64 (kleast i), .int .i64 (kmost i), .int .i64 (kunit i), .int .i64 (kkids i)][j]? := fun j => by
    rw [hb.cell (p := ⟨w.heap.size, j, none⟩) (Nat.lt_succ_self _), World.cell?_alloc_at _ _ _ _ rfl]
  exact ⟨e 0, e 1, e 2, e 3, e 4, e 5, e 6⟩

theorem walk_KindMatchesReference (t : Int) (w : World) (hT : TabOk w) (hI : InsOk w) (ht0 : 0 ≤ t) (ht1 : t ≤ 255) :
    Calls Tryd.prog 6 #[.int .u8 t] w fun e w' => e = .returned (.bool true) ∧ Below w.heap.size w w' := by
  cases h0 : (t == 0) <;> cases h64 : (t == 64)
  all_goals
    have HT := Lib.hid hT
    have HI := Lib.hid hI
    clear hT hI
    go_enter Tryd.func6, Tryd.ntmps6
    go_wp2_with fail
    refine (awake_any _ HT.out HI.out).mono ?_
    rintro e w1 ⟨rfl, hb1⟩
    have HB1 := Lib.hid hb1
    have hs1 : w.heap.size ≤ w1.heap.size := hb1.size
    clear hb1
    go_wp2_with fail
    refine (of_any _ _ (HT.out.below HB1.out) ht0 (by omega)).mono ?_
    rintro e w2 ⟨rfl, hb2⟩
    have HB2 := Lib.hid (HB1.out.trans (hb2.mono hs1))
    have hs2 : w.heap.size ≤ w2.heap.size := HB2.out.size
    clear hb2
    go_wp2_with fail
    refine (refof_any _ _ ht0 (by omega)).mono ?_
    rintro e w3 ⟨rfl, hb3⟩
    rw [World.size_alloc] at hb3
    obtain ⟨c0, c1, c2, c3, c4, c5, c6⟩ := rowAt_new w2 w3 33 (ixt t) _ rfl hb3
    have HB3 := Lib.hid ((HB2.out.alloc hs2 _).trans (hb3.mono (by omega)))
    have hs3 : w2.heap.size + 1 ≤ w3.heap.size := by have := hb3.size; simpa using this
    have hlt3 : w2.heap.size < w3.heap.size := by omega
    clear hb3
    go_wp2_with fail
    refine (known_any _ _ (HT.out.below (HB3.out.alloc (by omega) _)) ht0 (by omega)).mono ?_
    rintro e w4 ⟨rfl, hb4⟩
    have HB4 := Lib.hid ((HB3.out.alloc (by omega) _).trans (hb4.mono (by simp; omega)))
    clear hb4 c0 c1 c2 c3 c4 c5 c6
    go_wp2_with (go_at_call 20; refine (isdata_any _ _).mono ?_; rintro e w' ⟨rfl, rfl⟩)
    go_ret
    exact ⟨by simp_all, HB4.out⟩

theorem walk_KindTypes (x : Int) (w : World) (hT : TabOk w) (hI : InsOk w) (hx0 : 0 ≤ x) (hx1 : x ≤ 255) :
    Calls Tryd.prog 3 #[.int .u8 x] w fun e w' => e = .returned (.bool true) ∧ Below w.heap.size w w' := by
  obtain ⟨i0, hi, hz0, hz1, hz2⟩ := info_parts info5
  have HT := Lib.hid hT
  have HI := Lib.hid hI
  clear hT hI
  obtain ⟨X, rfl⟩ := Int.eq_ofNat_of_zero_le hx0
  have hX : X % 23 < 23 := Nat.mod_lt _ (by decide)
  go_enter Tryd.func3, Tryd.ntmps3
  go_wp2_with fail
  refine (awake_any _ HT.out HI.out).mono ?_
  rintro e w1 ⟨rfl, hb1⟩
  have HB1 := Lib.hid hb1
  have hs1 : w.heap.size ≤ w1.heap.size := hb1.size
  clear hb1
  go_wp2_with fail
  refine (types_any _ (HT.out.below HB1.out)).mono ?_
  rintro e w2 ⟨v, rfl, hown, hb2⟩
  have hown0 := own_base hown hs1
  obtain ⟨h23, hcase⟩ := hown0
  rcases hcase with ⟨_, h0⟩ | ⟨g, cap, cur, rfl, hg, hh, hn, hm, hsz, ht⟩
  · omega
  · have HB2 := Lib.hid (HB1.out.trans (hb2.mono hs1))
    have hs2 : w.heap.size ≤ w2.heap.size := HB2.out.size
    have hcell : w2.cell? ⟨g, X % 23, none⟩ = some (.int .u8 (kty (X % 23))) := by
      rw [cell_of_row w2 g _ cur 5 (0, 0) hh]
      have e1 : (tys.map (Value.int .u8))[X % 23]? = some (.int .u8 (kty (X % 23))) := by
        rw [List.getElem?_map, nth_get? (show X % 23 < tys.length from hX), nth_tys hX]; rfl
      rw [← ht, List.getElem?_take, if_pos (by omega)] at e1
      simpa using e1
    have hfr : w2.frozen? ⟨g, X % 23, none⟩ = false := by simp [World.frozen?, hh]
    have HBs := fun v => Lib.hid (HB2.out.setCell (p := ⟨g, X % 23, none⟩) hg v)
    have hcap : (23 : Int) ≤ cap := by omega
    clear hb2 hown ht hh hsz
    go_wp2_with fail
    refine (table_any _).mono ?_
    rintro e w3 ⟨rfl, hr, hb3⟩
    rw [World.size_setCell] at hr hb3
    have HB3 := Lib.hid ((HBs _).out.trans (hb3.mono hs2))
    have hs3 : w.heap.size ≤ w3.heap.size := HB3.out.size
    have hs3' : w2.heap.size < w3.heap.size := lt_cell (hr 0 (by decide)).1
    have HR := Lib.hid hr
    clear hb3 hr HBs hcell hfr
    go_wp2
    go_loopw [4, 6] (fun v i wr => ∃ k : Nat, k ≤ 23 ∧ i = .int .i64 k ∧ wr.ownsRow w3.heap.size 5 1 v k ((tys.take k).map (Value.int .u8)) ∧ Below w3.heap.size w3 wr) (fun _ i _ => 23 - (intOf i).toNat)
    case atStart => exact ⟨0, by omega, rfl, World.ownsRow_nil _ _ _ _, Below.refl _ _⟩
    case round =>
      obtain ⟨k, hk, rfl, hown, hbw⟩ := hrel
      have HO := Lib.hid hown
      have HW := Lib.hid hbw
      have hsw : w3.heap.size ≤ wr.heap.size := hbw.size
      clear hown hbw
      by_cases hlt : k < 23
      · obtain ⟨r0, r1, r2, r3, r4, r5, r6⟩ := (HR.out k hlt).below HW.out
        have hst := Lib.hid (tys_take hlt)
        clear r1 r2 r3 r4 r5 r6
        go_wp2_with (at_builtin; refine append_own_any _ rfl _ _ 23 rfl w3.heap.size 5 i0 (.int .u8 0) 1 Tryd.underlying23 hi hz0 hz1 hz2 rfl _ _ _ rfl (HO.out.alloc _) _ _ _ [.int .u8 (kty k)] rfl (Sl.at _ _ [.int .u8 (kty k)] 5 1 rfl rfl (by omega)) (ints_oneCell .u8 [kty k]) (by unfold maxLen; omega) (by omega) (by simp; omega) ?_; intro v' w4 HO2 hgrow)
        have HO3 := HO2.out
        rw [show (tys.take k).map (Value.int .u8) ++ [.int .u8 (kty k)] = (tys.take (k + 1)).map (Value.int .u8) by rw [hst.out, List.map_append]; rfl] at HO3
        have HO4 := Lib.hid HO3
        have HW2 := Lib.hid ((HW.out.alloc hsw _).grown hgrow.out (by simp; omega) (fun k' hk' => (HO.out.lt k' hk').1))
        clear HO2 HO3 hgrow HO HW r0
        go_wp2
        go_roundw
        case rel => exact ⟨k + 1, by omega, by go_num, HO4.out, HW2.out⟩
        case measure => simp [intOf]; omega
      · obtain rfl : k = 23 := by omega
        have he : Hid (tys.take 23 = tys) := List.take_of_length_le (by decide)
        rw [he.out] at HO
        obtain ⟨a4, c4, hv4, hsl4⟩ := Ints.own HO.out
        subst hv4
        have HS4 := Lib.hid hsl4
        have HWw := Lib.hid (HB3.out.trans (HW.out.mono hs3))
        have hsw' : w.heap.size ≤ wr.heap.size := HWw.out.size
        clear hsl4
        go_wp2_with fail
        refine (types_any _ (HT.out.below HWw.out)).mono ?_
        rintro e w5 ⟨v5, rfl, hown5, hb5⟩
        obtain ⟨a5, c5, hv5, hsl5⟩ := Ints.own hown5
        subst hv5
        have HS5 := Lib.hid hsl5
        have HS4' := Lib.hid (HS4.out.below hb5)
        have HW5 := Lib.hid (HWw.out.trans (hb5.mono hsw'))
        clear hsl5 hown5 hb5 HS4
        go_wp2_with fail
        refine (same_any _ _ _ _ _ _ _ _ _ HS5.out HS4'.out).mono ?_
        rintro e w6 ⟨rfl, hb6⟩
        rw [eqL_true rfl]
        have HW6 := Lib.hid (HW5.out.trans (hb6.mono HW5.out.size))
        clear hb6
        go_wp2
        go_ret
        exact ⟨rfl, HW6.out⟩

end Go.Proofs.YtoioindpmgkefaaDoor

/- What the rows' condition gives; the walk of the law LegalAlone. -/
import Derived.Test.YtdkmmbmelmfhlaaDoorLegal7
import Derived.MakeChecks
import Derived.OpenShut
namespace Go.Proofs.YtdkmmbmelmfhlaaDoor
open Go.RowKit

theorem tAlone : (Tryd.prog.globals[0]?).map (·.type) = some 37 := by kernel_rfl
theorem alone_datum {H : Type} : (Rows.laid_wharf_legal_alone : DataW H) = Lib.tabData .u8 [1, 2, 14] := rfl
/-- WHAT THE ROWS' CONDITION GIVES -/
theorem alone_of_laid {W : World} (h : laidMetH Tryd.prog [("wharf/legal.alone", Rows.laid_wharf_legal_alone)] W) : AloneOk W := by
  rw [MakeChecks.laidMetH_plain _ _ _ (by kernel_rfl)] at h
  have ht : Lib.TabIs Tryd.prog W "wharf/legal.alone" .u8 [1, 2, 14] := Lib.tabIs_of_head gAlone tAlone Tryd.underlying37 Tryd.underlying5 (by kernel_rfl) (by kernel_rfl) h
  have hc := fun i hi => ht.cell gAlone i hi
  refine ⟨rfl, Nat.le_refl _, by omega, (fun h => by cases h), fun _ => ⟨_, 0, rfl, lt_of_cell (hc 0 (by decide)), fun j v hv => ?_⟩⟩
  rw [List.getElem?_map] at hv
  obtain ⟨z, hz, rfl⟩ := Option.map_eq_some_iff.1 hv
  have hj : j < 3 := (List.getElem?_eq_some_iff.1 hz).1
  have := hc j hj
  rw [Nat.zero_add, this]
  simp [List.getD, hz]

theorem legal1 (t : Int) : legalB [t] = true := by
  have h : firstI [t] = -1 := first_none fun j hj => by
    have : j = 0 := by simp at hj; omega
    subst this; rfl
  unfold legalB
  rw [h]; rfl
theorem legal2 (x y : Int) : legalB [x, y] = mayB y [x] := by
  rw [legal_pos (by simp)]
  cases h : mayB y [x] with
  | true =>
    have : firstI [x, y] = -1 := first_none fun j hj => by
      have hj2 : j = 0 ∨ j = 1 := by simp at hj; omega
      rcases hj2 with rfl | rfl
      · rfl
      · exact h
    rw [this]; rfl
  | false =>
    have : firstI [x, y] = ((1 : Nat) : Int) := first_some (by simp) h fun j hj => by
      obtain rfl : j = 0 := by omega
      rfl
    rw [this]; rfl
theorem may_one (y x : Int) : mayB y [x] = (!(single y || single x || y == 15 || isv 6 x || oth y x) && (y != 10 || x == 15)) := by
  rw [may_full (by simp)]
  simp [anyB, nth_cons_zero]
theorem alone1 {t : Int} (x : Int) (h : single t = true) : legalB [t, x] = false := by rw [legal2, may_one, h]; simp
theorem alone2 {t : Int} (x : Int) (h : single t = true) : legalB [x, t] = false := by rw [legal2, may_one, h]; simp
theorem alone6 (x : Int) : legalB [6, x] = false := by rw [legal2, may_one]; simp [isv]
theorem alone15 (x : Int) : legalB [x, 15] = false := by rw [legal2, may_one]; simp
theorem alone0 (x : Int) : legalB [0, x] = (x == 0) := by
  rw [legal2, may_one]
  by_cases h : x = 0
  · subst h; decide
  · have e : (x == 0) = false := by simp [h]
    have e2 : ((0 : Int) != x) = true := by simp; omega
    rw [e]; simp [oth, dat, e2]
theorem alone64 (x : Int) : legalB [64, x] = (x == 64) := by
  rw [legal2, may_one]
  by_cases h : x = 64
  · subst h; decide
  · have e : (x == 64) = false := by simp [h]
    have e2 : ((64 : Int) != x) = true := by simp; omega
    rw [e]; simp [oth, dat, e2]

set_option maxHeartbeats 16000000 in
theorem walk_LegalAlone (t x : Int) (w : World) (hA : AloneOk w) :
    Calls Tryd.prog 6 #[.int .u8 t, .int .u8 x] w fun e w' => e = .returned (.bool true) ∧ Below w.heap.size w w' := by
  have HA := Lib.hid hA
  clear hA
  have hp : ((t == 1) = true ∧ Hid (single t = true)) ∨ ((t == 1) = false ∧ (t == 2) = true ∧ Hid (single t = true)) ∨ ((t == 1) = false ∧ (t == 2) = false ∧ (t == 14) = true ∧ Hid (single t = true)) ∨ ((t == 1) = false ∧ (t == 2) = false ∧ (t == 14) = false) := by
    unfold single Hid
    cases (t == 1) <;> cases (t == 2) <;> cases (t == 14) <;> simp
  rcases hp with ⟨h1, hs⟩ | ⟨h1, h2, hs⟩ | ⟨h1, h2, h3, hs⟩ | ⟨h1, h2, h3⟩
  iterate 3
    · go_enter Tryd.func6, Tryd.ntmps6
      go_wp2_with fail
      refine (awake_any _ HA.out).mono ?_
      rintro e w1 ⟨rfl, hb1⟩
      have HB1 := Lib.hid hb1
      have hs1 : w.heap.size ≤ w1.heap.size := hb1.size
      clear hb1
      go_wp2_with fail
      refine (legal_any _ 1 1 [t] _ (HA.out.below (HB1.out.alloc hs1 _)) (Ints.at .u8 _ _ [t] 5 1 (by simp) rfl (by omega))).mono ?_
      rintro e w2 ⟨rfl, hb2⟩
      rw [legal1]
      have HB2 := Lib.hid ((HB1.out.alloc hs1 _).trans (hb2.mono (by simp; omega)))
      have hs2 : w.heap.size ≤ w2.heap.size := HB2.out.size
      clear hb2 HB1
      go_wp2_with fail
      refine (legal_any _ 2 2 [t, x] _ (HA.out.below (HB2.out.alloc hs2 _)) (Ints.at .u8 _ _ [t, x] 5 2 (by simp) rfl (by omega))).mono ?_
      rintro e w3 ⟨rfl, hb3⟩
      rw [alone1 x hs.out]
      have HB3 := Lib.hid ((HB2.out.alloc hs2 _).trans (hb3.mono (by simp; omega)))
      have hs3 : w.heap.size ≤ w3.heap.size := HB3.out.size
      clear hb3 HB2
      go_wp2_with fail
      refine (legal_any _ 2 2 [x, t] _ (HA.out.below (HB3.out.alloc hs3 _)) (Ints.at .u8 _ _ [x, t] 5 2 (by simp) rfl (by omega))).mono ?_
      rintro e w4 ⟨rfl, hb4⟩
      rw [alone2 x hs.out]
      have HB4 := Lib.hid ((HB3.out.alloc hs3 _).trans (hb4.mono (by simp; omega)))
      have hs4 : w.heap.size ≤ w4.heap.size := HB4.out.size
      clear hb4 HB3
      go_wp2_with fail
      refine (legal_any _ 2 2 [6, x] _ (HA.out.below (HB4.out.alloc hs4 _)) (Ints.at .u8 _ _ [6, x] 5 2 (by simp) rfl (by omega))).mono ?_
      rintro e w5 ⟨rfl, hb5⟩
      rw [alone6]
      have HB5 := Lib.hid ((HB4.out.alloc hs4 _).trans (hb5.mono (by simp; omega)))
      have hs5 : w.heap.size ≤ w5.heap.size := HB5.out.size
      clear hb5 HB4
      go_wp2_with fail
      refine (legal_any _ 2 2 [0, x] _ (HA.out.below (HB5.out.alloc hs5 _)) (Ints.at .u8 _ _ [0, x] 5 2 (by simp) rfl (by omega))).mono ?_
      rintro e w6 ⟨rfl, hb6⟩
      rw [alone0]
      have HB6 := Lib.hid ((HB5.out.alloc hs5 _).trans (hb6.mono (by simp; omega)))
      have hs6 : w.heap.size ≤ w6.heap.size := HB6.out.size
      clear hb6 HB5
      go_wp2_with fail
      refine (legal_any _ 2 2 [64, x] _ (HA.out.below (HB6.out.alloc hs6 _)) (Ints.at .u8 _ _ [64, x] 5 2 (by simp) rfl (by omega))).mono ?_
      rintro e w7 ⟨rfl, hb7⟩
      rw [alone64]
      have HB7 := Lib.hid ((HB6.out.alloc hs6 _).trans (hb7.mono (by simp; omega)))
      have hs7 : w.heap.size ≤ w7.heap.size := HB7.out.size
      clear hb7 HB6
      go_wp2_with fail
      refine (legal_any _ 2 2 [x, 15] _ (HA.out.below (HB7.out.alloc hs7 _)) (Ints.at .u8 _ _ [x, 15] 5 2 (by simp) rfl (by omega))).mono ?_
      rintro e w8 ⟨rfl, hb8⟩
      rw [alone15]
      have HB8 := Lib.hid ((HB7.out.alloc hs7 _).trans (hb8.mono (by simp; omega)))
      clear hb8 HB7
      go_wp2
      go_ret
      exact ⟨rfl, HB8.out⟩
  · go_enter Tryd.func6, Tryd.ntmps6
    go_wp2_with fail
    refine (awake_any _ HA.out).mono ?_
    rintro e w1 ⟨rfl, hb1⟩
    have HB1 := Lib.hid hb1
    have hs1 : w.heap.size ≤ w1.heap.size := hb1.size
    clear hb1
    go_wp2_with fail
    refine (legal_any _ 1 1 [t] _ (HA.out.below (HB1.out.alloc hs1 _)) (Ints.at .u8 _ _ [t] 5 1 (by simp) rfl (by omega))).mono ?_
    rintro e w4 ⟨rfl, hb2⟩
    rw [legal1]
    have HB4 := Lib.hid ((HB1.out.alloc hs1 _).trans (hb2.mono (by simp; omega)))
    have hs4 : w.heap.size ≤ w4.heap.size := HB4.out.size
    clear hb2 HB1
    go_wp2_with fail
    refine (legal_any _ 2 2 [6, x] _ (HA.out.below (HB4.out.alloc hs4 _)) (Ints.at .u8 _ _ [6, x] 5 2 (by simp) rfl (by omega))).mono ?_
    rintro e w5 ⟨rfl, hb5⟩
    rw [alone6]
    have HB5 := Lib.hid ((HB4.out.alloc hs4 _).trans (hb5.mono (by simp; omega)))
    have hs5 : w.heap.size ≤ w5.heap.size := HB5.out.size
    clear hb5 HB4
    go_wp2_with fail
    refine (legal_any _ 2 2 [0, x] _ (HA.out.below (HB5.out.alloc hs5 _)) (Ints.at .u8 _ _ [0, x] 5 2 (by simp) rfl (by omega))).mono ?_
    rintro e w6 ⟨rfl, hb6⟩
    rw [alone0]
    have HB6 := Lib.hid ((HB5.out.alloc hs5 _).trans (hb6.mono (by simp; omega)))
    have hs6 : w.heap.size ≤ w6.heap.size := HB6.out.size
    clear hb6 HB5
    go_wp2_with fail
    refine (legal_any _ 2 2 [64, x] _ (HA.out.below (HB6.out.alloc hs6 _)) (Ints.at .u8 _ _ [64, x] 5 2 (by simp) rfl (by omega))).mono ?_
    rintro e w7 ⟨rfl, hb7⟩
    rw [alone64]
    have HB7 := Lib.hid ((HB6.out.alloc hs6 _).trans (hb7.mono (by simp; omega)))
    have hs7 : w.heap.size ≤ w7.heap.size := HB7.out.size
    clear hb7 HB6
    go_wp2_with fail
    refine (legal_any _ 2 2 [x, 15] _ (HA.out.below (HB7.out.alloc hs7 _)) (Ints.at .u8 _ _ [x, 15] 5 2 (by simp) rfl (by omega))).mono ?_
    rintro e w8 ⟨rfl, hb8⟩
    rw [alone15]
    have HB8 := Lib.hid ((HB7.out.alloc hs7 _).trans (hb8.mono (by simp; omega)))
    clear hb8 HB7
    go_wp2
    go_ret
    exact ⟨rfl, HB8.out⟩

end Go.Proofs.YtdkmmbmelmfhlaaDoor

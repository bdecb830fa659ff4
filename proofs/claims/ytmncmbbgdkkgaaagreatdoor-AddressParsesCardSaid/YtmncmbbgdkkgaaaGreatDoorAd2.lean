/- node.Same where the first node has no kids; the law's same likewise; the reference's Is. -/
import Derived.Test.YtmncmbbgdkkgaaaGreatDoorAd1
namespace Go.Proofs.YtmncmbbgdkkgaaaGreatDoor
set_option maxRecDepth 100000
set_option linter.unusedVariables false
open Go.RowKit
theorem bytesOf_eq {xs ys : List Int} (hx : Byt xs) (hy : Byt ys) : (Lib.bytesOf xs == Lib.bytesOf ys) = eqL xs ys := by
  have hback : ∀ zs : List Int, Byt zs → (Lib.bytesOf zs).map (fun u => (u.toNat : Int)) = zs := fun zs hz => by
    unfold Lib.bytesOf
    rw [List.map_map]
    conv => rhs; rw [← List.map_id zs]
    refine List.map_congr_left fun z hzm => ?_
    have := hz z hzm
    show ((UInt8.ofNat z.toNat).toNat : Int) = z
    rw [UInt8.toNat_ofNat']
    omega
  by_cases h : xs = ys
  · rw [eqL_true h, h]; simp
  · rw [eqL_false h]
    simp only [beq_eq_false_iff_ne, ne_eq]
    intro he
    apply h
    rw [← hback xs hx, ← hback ys hy, he]
theorem Ints.bytesIn {w : World} {a : Option Addr} {n c : Nat} {xs : List Int} (h : Ints .u8 w a n c xs) : Lib.BytesIn w a n xs := by
  intro hn
  have hl := h.len
  obtain ⟨b, off, ha, _, hc⟩ := h.2.2.2.2 hn
  exact ⟨b, off, ha, fun i hi => hc i _ (by rw [List.getElem?_map]; simp [List.getD, show i < xs.length by omega])⟩
theorem equal_any (a b : Option Addr) (n c m d : Nat) (xs ys : List Int) (w : World) (hx : Ints .u8 w a n c xs) (hy : Ints .u8 w b m d ys) (bx : Byt xs) (by' : Byt ys) :
    Calls Tryz.prog 42 #[.slice a n c, .slice b m d] w fun e w' => e = .returned (.bool (eqL xs ys)) ∧ w = w' := by
  refine (Tryz.bytes_Equal_all a b n c m d xs ys w hx.len hy.len hx.bytesIn hy.bytesIn).mono ?_
  rintro e w' ⟨rfl, rfl⟩
  exact ⟨by rw [bytesOf_eq bx by'], rfl⟩
theorem eqf_zero (k k2 : Option Addr) (d m2 d2 : Nat) (f : Value) (w : World) :
    Calls Tryz.prog 43 #[.slice k 0 d, .slice k2 m2 d2, f] w fun e w' => e = .returned (.bool (decide (m2 = 0))) ∧ w = w' := by
  by_cases hm : m2 = 0
  · subst hm
    go_enter Tryz.func43, Tryz.ntmps43
    go_wp2
    go_loopw [17] (fun i wl => i = .int .i64 0 ∧ wl = w) (fun _ _ => 0)
    case atStart => exact ⟨rfl, rfl⟩
    case round =>
      obtain ⟨rfl, rfl⟩ := hrel
      go_wp2
      go_ret
      exact ⟨rfl, rfl⟩
  · have d0 : ((m2 : Int) == 0) = false := by simp; omega
    have d0' : ((0 : Int) == (m2 : Int)) = false := by rw [beq_eq_false_iff_ne]; omega
    have d1 : decide (m2 = 0) = false := by simpa using hm
    rw [d1]
    have hm' : ¬ (0 : Int) = m2 := by omega
    go_enter Tryz.func43, Tryz.ntmps43
    go_wp2
    go_ret
    exact ⟨rfl, rfl⟩
theorem nsame_any (t1 t2 : Int) (a b k k2 : Option Addr) (n c d n2 c2 m2 d2 : Nat) (xs ys : List Int) (w : World) (hx : Ints .u8 w a n c xs) (hy : Ints .u8 w b n2 c2 ys) (bx : Byt xs) (by' : Byt ys) :
    Calls Tryz.prog 25 #[ndV t1 a n c k 0 d, ndV t2 b n2 c2 k2 m2 d2] w fun e w' => e = .returned (.bool (t1 == t2 && eqL xs ys && decide (m2 = 0))) ∧ Below w.heap.size w w' := by
  have HB := Lib.hid (((Below.refl _ w).alloc (Nat.le_refl _) (.cells #[.int .u16 t1, .slice a n c, .slice k 0 d] 26)).alloc (by simp) (.cells #[.int .u16 t2, .slice b n2 c2, .slice k2 m2 d2] 26))
  have HX := Lib.hid hx
  have HY := Lib.hid hy
  unfold ndV
  cases h1 : (t1 == t2) with
  | false =>
    clear hx hy
    go_enter Tryz.func25, Tryz.ntmps25
    go_wp2
    go_ret
    exact ⟨by simp, HB.out⟩
  | true =>
    cases h2 : eqL xs ys with
    | false =>
      clear hx hy
      go_enter Tryz.func25, Tryz.ntmps25
      go_wp2_with fail
      refine (equal_any a b n c n2 c2 xs ys _ (HX.out.below HB.out) (HY.out.below HB.out) bx by').mono ?_
      rintro e w1 ⟨rfl, rfl⟩
      rw [h2]
      go_wp2
      go_ret
      exact ⟨by simp, HB.out⟩
    | true =>
      clear hx hy
      go_enter Tryz.func25, Tryz.ntmps25
      go_wp2_with fail
      refine (equal_any a b n c n2 c2 xs ys _ (HX.out.below HB.out) (HY.out.below HB.out) bx by').mono ?_
      rintro e w1 ⟨rfl, rfl⟩
      rw [h2]
      go_wp2_with fail
      refine (eqf_zero k k2 d m2 d2 _ _).mono ?_
      rintro e w1 ⟨rfl, rfl⟩
      go_wp2
      go_ret
      exact ⟨by simp, HB.out⟩
/-- the reference's Is -/
def isB (t : Int) (n m : Nat) : Bool := decide (m = 0) && (t == 5 && decide (n = 4) || t == 6 && decide (n = 16))
theorem is_any9 (t : Int) (a : Option Addr) (n c : Nat) (k : Option Addr) (m d : Nat) (w : World) :
    Calls Tryz.prog 13 #[ndV t a n c k m d] w fun e w' => e = .returned (.bool (isB t n m)) ∧ Below w.heap.size w w' := by
  have HB := Lib.hid ((Below.refl _ w).alloc (Nat.le_refl _) (.cells #[.int .u16 t, .slice a n c, .slice k m d] 26))
  unfold ndV isB
  have e0 : decide (m = 0) = ((m : Int) == 0) := by rw [Bool.eq_iff_iff]; simp <;> omega
  have e4 : decide (n = 4) = ((n : Int) == 4) := by rw [Bool.eq_iff_iff]; simp <;> omega
  have e16 : decide (n = 16) = ((n : Int) == 16) := by rw [Bool.eq_iff_iff]; simp <;> omega
  rw [e0, e4, e16]
  clear e0 e4 e16
  cases h0 : ((m : Int) == 0) <;> cases h5 : (t == 5) <;> cases h6 : (t == 6) <;> cases h4 : ((n : Int) == 4) <;> cases h16 : ((n : Int) == 16)
  all_goals
    go_enter Tryz.func13, Tryz.ntmps13
    go_wp2
    go_ret
    exact ⟨by simp, HB.out⟩
end Go.Proofs.YtmncmbbgdkkgaaaGreatDoor

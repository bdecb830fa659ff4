/- legal.May and the reference's May. -/
import Derived.Test.YtdkmmbmelmfhlaaDoorLegal
namespace Go.Proofs.YtdkmmbmelmfhlaaDoor
open Go.RowKit

/-- whether a type may follow a list -/
def mayB (t : Int) (zs : List Int) : Bool := zs.isEmpty || (!(single t || anyB single zs || t == 15 || anyB (isv 6) zs || anyB (oth t) zs) && (t != 10 || (zs.length == 1 && nth zs 0 == 15)))
theorem may_nil (t : Int) : mayB t [] = true := rfl
theorem may_full {t : Int} {zs : List Int} (h : 0 < zs.length) : mayB t zs = (!(single t || anyB single zs || t == 15 || anyB (isv 6) zs || anyB (oth t) zs) && (t != 10 || (zs.length == 1 && nth zs 0 == 15))) := by
  cases zs with
  | nil => simp at h
  | cons => rfl
theorem anyB_or (p q : Int → Bool) (zs : List Int) : anyB (fun x => p x || q x) zs = (anyB p zs || anyB q zs) := by
  unfold anyB
  induction zs with
  | nil => rfl
  | cons z zs ih => simp only [List.any_cons, ih]; cases p z <;> cases q z <;> simp
theorem any_single (zs : List Int) : anyB single zs = (anyB (isv 1) zs || anyB (isv 2) zs || anyB (isv 14) zs) := by
  rw [← anyB_or, ← anyB_or]
  congr 1
  funext x
  unfold single isv
  rw [Bool.beq_comm (a := x) (b := 1), Bool.beq_comm (a := x) (b := 2), Bool.beq_comm (a := x) (b := 14)]
theorem any_and (c : Bool) (p : Int → Bool) (zs : List Int) : anyB (fun x => p x && c) zs = (anyB p zs && c) := by
  cases c <;> simp [anyB]
theorem any_oth (t : Int) (zs : List Int) : anyB (oth t) zs = ((anyB (isv 0) zs && t != 0) || (anyB (isv 64) zs && t != 64)) := by
  rw [← any_and, ← any_and, ← anyB_or]
  congr 1
  funext x
  unfold oth dat isv
  by_cases h0 : x = 0
  · subst h0; simp [bne, Bool.beq_comm]
  · by_cases h1 : x = 64
    · subst h1; simp [bne, Bool.beq_comm]
    · have e0 : (x == 0) = false := by simp [h0]
      have e1 : (x == 64) = false := by simp [h1]
      have e2 : ((0 : Int) == x) = false := by simp; omega
      have e3 : ((64 : Int) == x) = false := by simp; omega
      simp [e0, e1, e2, e3]

theorem has_any' (t : Int) (a : Option Addr) (n c : Nat) (zs : List Int) (w : World) (hx : Ints .u8 w a n c zs) :
    Calls Tryd.prog 21 #[.slice a n c, .int .u8 t] w fun e w' => e = .returned (.bool (anyB (isv t) zs)) ∧ w = w' := by
  have e : isv t = fun x => x == t := by funext x; unfold isv; exact Bool.beq_comm
  rw [e]; exact has_any t a n c zs w hx

set_option maxHeartbeats 16000000 in
/-- legal.May -/
theorem may_any (t : Int) (a : Option Addr) (n c : Nat) (zs : List Int) (w : World) (hA : AloneOk w) (hx : Ints .u8 w a n c zs) :
    Calls Tryd.prog 8 #[.int .u8 t, .slice a n c] w fun e w' => e = .returned (.bool (mayB t zs)) ∧ Below w.heap.size w w' := by
  have hc1 := hx.cap
  have HB := Lib.hid ((Below.refl w.heap.size w).alloc (Nat.le_refl _) (.cells #[.int .u8 t] 5))
  rcases hx.cells with ⟨rfl, rfl⟩ | ⟨b1, o1, rfl, hb1, hn, hcx⟩
  · rw [may_nil]
    clear hx hA
    go_enter Tryd.func8, Tryd.ntmps8
    go_wp2
    go_ret
    exact ⟨rfl, HB.out⟩
  · rw [may_full (by rw [hx.len]; exact hn), hx.len]
    have hc0 : w.cell? ⟨b1, o1, none⟩ = some (.int .u8 (nth zs 0)) := hcx 0 hn
    have HA := Lib.hid (hA.below HB.out)
    have HX := Lib.hid (hx.below HB.out)
    have hbx : Hid ((w.alloc (.cells #[.int .u8 t] 5)).cell? ⟨w.heap.size, 0, none⟩ = some (.int .u8 t)) := by
      show (w.alloc (.cells #[.int .u8 t] 5)).cell? _ = _
      rw [World.cell?_alloc_at _ _ _ _ rfl]; rfl
    clear hx hA hcx
    cases h1 : single t with
    | true =>
      simp only [Bool.true_or, Bool.not_true, Bool.false_and]
      go_enter Tryd.func8, Tryd.ntmps8
      go_wp2_with (go_at_call 16; refine (single_any _ _ HA.out).mono ?_; rintro e w' ⟨rfl, rfl⟩; rw [h1])
      go_ret
      exact ⟨rfl, HB.out⟩
    | false =>
    cases h2 : anyB single zs with
    | true =>
      simp only [Bool.true_or, Bool.or_true, Bool.not_true, Bool.false_and]
      go_enter Tryd.func8, Tryd.ntmps8
      go_wp2_with (first
        | (go_at_call 16; refine (single_any _ _ HA.out).mono ?_; rintro e w' ⟨rfl, rfl⟩; rw [h1])
        | (go_at_call 20; refine (contains1_any _ _ _ zs _ HA.out HX.out).mono ?_; rintro e w' ⟨rfl, rfl⟩; rw [h2]))
      go_ret
      exact ⟨rfl, HB.out⟩
    | false =>
    cases h3 : (t == 15) with
    | true =>
      simp only [Bool.true_or, Bool.or_true, Bool.not_true, Bool.false_and]
      go_enter Tryd.func8, Tryd.ntmps8
      go_wp2_with (first
        | (go_at_call 16; refine (single_any _ _ HA.out).mono ?_; rintro e w' ⟨rfl, rfl⟩; rw [h1])
        | (go_at_call 20; refine (contains1_any _ _ _ zs _ HA.out HX.out).mono ?_; rintro e w' ⟨rfl, rfl⟩; rw [h2]))
      go_ret
      exact ⟨rfl, HB.out⟩
    | false =>
    cases h4 : anyB (isv 6) zs with
    | true =>
      simp only [Bool.true_or, Bool.or_true, Bool.not_true, Bool.false_and]
      go_enter Tryd.func8, Tryd.ntmps8
      go_wp2_with (first
        | (go_at_call 16; refine (single_any _ _ HA.out).mono ?_; rintro e w' ⟨rfl, rfl⟩; rw [h1])
        | (go_at_call 17; refine (contains_any _ _ _ _ zs _ HX.out).mono ?_; rintro e w' ⟨rfl, rfl⟩; rw [h4])
        | (go_at_call 20; refine (contains1_any _ _ _ zs _ HA.out HX.out).mono ?_; rintro e w' ⟨rfl, rfl⟩; rw [h2]))
      go_ret
      exact ⟨rfl, HB.out⟩
    | false =>
    cases h5 : anyB (oth t) zs with
    | true =>
      simp only [Bool.or_true, Bool.not_true, Bool.false_and]
      go_enter Tryd.func8, Tryd.ntmps8
      go_wp2_with (first
        | (go_at_call 16; refine (single_any _ _ HA.out).mono ?_; rintro e w' ⟨rfl, rfl⟩; rw [h1])
        | (go_at_call 17; refine (contains_any _ _ _ _ zs _ HX.out).mono ?_; rintro e w' ⟨rfl, rfl⟩; rw [h4])
        | (go_at_call 20; refine (contains1_any _ _ _ zs _ HA.out HX.out).mono ?_; rintro e w' ⟨rfl, rfl⟩; rw [h2])
        | (go_at_call 20; refine (contains2_any t w.heap.size _ _ _ zs _ hbx.out HX.out).mono ?_; rintro e w' ⟨rfl, rfl⟩; rw [h5]))
      go_ret
      exact ⟨rfl, HB.out⟩
    | false =>
    simp only [Bool.or_false, Bool.not_false, Bool.true_and]
    cases h6 : (t != 10) with
    | true =>
      simp only [Bool.true_or]
      go_enter Tryd.func8, Tryd.ntmps8
      go_wp2_with (first
        | (go_at_call 16; refine (single_any _ _ HA.out).mono ?_; rintro e w' ⟨rfl, rfl⟩; rw [h1])
        | (go_at_call 17; refine (contains_any _ _ _ _ zs _ HX.out).mono ?_; rintro e w' ⟨rfl, rfl⟩; rw [h4])
        | (go_at_call 20; refine (contains1_any _ _ _ zs _ HA.out HX.out).mono ?_; rintro e w' ⟨rfl, rfl⟩; rw [h2])
        | (go_at_call 20; refine (contains2_any t w.heap.size _ _ _ zs _ hbx.out HX.out).mono ?_; rintro e w' ⟨rfl, rfl⟩; rw [h5]))
      go_ret
      exact ⟨rfl, HB.out⟩
    | false =>
    cases h7 : ((n : Int) == 1) with
    | false =>
      have h7' : (n == 1) = ((n : Int) == 1) := by rw [Bool.eq_iff_iff]; simp; omega
      rw [h7', h7]
      clear h7'
      go_enter Tryd.func8, Tryd.ntmps8
      go_wp2_with (first
        | (go_at_call 16; refine (single_any _ _ HA.out).mono ?_; rintro e w' ⟨rfl, rfl⟩; rw [h1])
        | (go_at_call 17; refine (contains_any _ _ _ _ zs _ HX.out).mono ?_; rintro e w' ⟨rfl, rfl⟩; rw [h4])
        | (go_at_call 20; refine (contains1_any _ _ _ zs _ HA.out HX.out).mono ?_; rintro e w' ⟨rfl, rfl⟩; rw [h2])
        | (go_at_call 20; refine (contains2_any t w.heap.size _ _ _ zs _ hbx.out HX.out).mono ?_; rintro e w' ⟨rfl, rfl⟩; rw [h5]))
      go_ret
      exact ⟨rfl, HB.out⟩
    | true =>
      have h7' : (n == 1) = ((n : Int) == 1) := by rw [Bool.eq_iff_iff]; simp; omega
      rw [h7', h7]
      clear h7'
      cases h8 : (nth zs 0 == 15)
      all_goals
        go_enter Tryd.func8, Tryd.ntmps8
        go_wp2_with (first
          | (go_at_call 16; refine (single_any _ _ HA.out).mono ?_; rintro e w' ⟨rfl, rfl⟩; rw [h1])
          | (go_at_call 17; refine (contains_any _ _ _ _ zs _ HX.out).mono ?_; rintro e w' ⟨rfl, rfl⟩; rw [h4])
          | (go_at_call 20; refine (contains1_any _ _ _ zs _ HA.out HX.out).mono ?_; rintro e w' ⟨rfl, rfl⟩; rw [h2])
          | (go_at_call 20; refine (contains2_any t w.heap.size _ _ _ zs _ hbx.out HX.out).mono ?_; rintro e w' ⟨rfl, rfl⟩; rw [h5]))
        go_ret
        exact ⟨rfl, HB.out⟩

end Go.Proofs.YtdkmmbmelmfhlaaDoor

/- Few and build. -/
import Derived.Test.YtlaofaopajcfkaaDoorErr13
namespace Go.Proofs.YtlaofaopajcfkaaDoor
open Go.RowKit

def str (ps : List ByteArray) (k : Nat) : ByteArray := ps.getD k ⟨#[]⟩
theorem str_mem {ps : List ByteArray} {k : Nat} (hk : k < ps.length) : str ps k ∈ ps := by simp [str, List.getD, hk]
theorem Strs.loc {w : World} {a : Option Addr} {n : Nat} {ps : List ByteArray} (h : Strs w a n ps) : ps.length = n ∧ ∃ b off, (a = some ⟨b, off, none⟩ ∨ n ≤ 0) ∧ ∀ j, j < n → b < w.heap.size ∧ w.cell? ⟨b, off + j, none⟩ = some (.string (str ps j)) ∧ (str ps j).size ≤ 9223372036854775807 := by
  obtain ⟨hl, b, off, ha, hc⟩ := h
  exact ⟨hl, b, off, ha.imp id (by omega), hc⟩

/-- what Few answers -/
def fewB (ps : List ByteArray) (at' : Int) : Bool := ps.all (fun p => decide (p.size ≤ 50)) && (decide (ps.length ≤ 20) && (decide (-1152921504606846976 < at') && decide (at' < 1152921504606846976)))
theorem few_stop {ps : List ByteArray} {at' : Int} {k : Nat} (hk : k < ps.length) (h : 50 < (str ps k).size) : fewB ps at' = false := by
  have : ps.all (fun p => decide (p.size ≤ 50)) = false := by
    rw [List.all_eq_false]
    exact ⟨_, str_mem hk, by simp; omega⟩
  simp [fewB, this]
theorem few_all {ps : List ByteArray} {at' : Int} (h : ∀ j, j < ps.length → (str ps j).size ≤ 50) : fewB ps at' = (decide (ps.length ≤ 20) && (decide (-1152921504606846976 < at') && decide (at' < 1152921504606846976))) := by
  have : ps.all (fun p => decide (p.size ≤ 50)) = true := by
    rw [List.all_eq_true]
    intro p hp
    obtain ⟨k, hk, rfl⟩ := List.getElem_of_mem hp
    have := h k hk
    simp [str, List.getD, hk] at this
    simpa using this
  simp [fewB, this]
theorem few_end {ps : List ByteArray} {at' : Int} {n : Nat} (hl : ps.length = n) (h : ∀ j, j < n → (str ps j).size ≤ 50) (b1 b2 b3 : Bool) (h1 : decide ((n : Int) ≤ 20) = b1) (h2 : decide (-1152921504606846976 < at') = b2) (h3 : decide (at' < 1152921504606846976) = b3) :
    fewB ps at' = (b1 && (b2 && b3)) := by
  rw [few_all (by rw [hl]; exact h), h2, h3, ← h1, hl]
  congr 1
  exact decide_eq_decide.2 (by omega)

set_option maxHeartbeats 4000000 in
theorem few_any (ni : Bool) (a : Option Addr) (n c : Nat) (ps : List ByteArray) (cod at' : Int) (fl : Bool) (w : World) (hs : Strs w a n ps) (hnc : n ≤ c) (hc : c ≤ 9223372036854775807) :
    Calls Tryd.prog 8 #[.agg #[.bool ni, .slice a n c, .int .i64 cod, .int .i64 at', .bool fl]] w fun e w' => e = .returned (.bool (fewB ps at')) ∧ Below w.heap.size w w' := by
  obtain ⟨hl, b, off, ha, hcell⟩ := hs.loc
  have HC := Lib.hid hcell
  have HL := Lib.hid hl
  have HNC := Lib.hid hnc
  have HCC := Lib.hid hc
  obtain ⟨r, hr⟩ : ∃ r, r = fewB ps at' := ⟨_, rfl⟩
  rw [← hr]
  have HR := Lib.hid hr
  clear hcell hl hr hs
  go_enter Tryd.func8, Tryd.ntmps8
  go_wp2
  obtain ⟨w1, hw1⟩ : ∃ w1, w.alloc (.cells #[.bool ni, .slice a n c, .int .i64 cod, .int .i64 at', .bool fl] 24) = w1 := ⟨_, rfl⟩
  rw [hw1]
  have HB1 := Lib.hid (show Below w.heap.size w w1 by rw [← hw1]; exact (Below.refl _ w).alloc (Nat.le_refl _) _)
  have c1 : w1.cell? ⟨w.heap.size, 1, none⟩ = some (.slice a n c) := by rw [← hw1]; simp
  have c3 : w1.cell? ⟨w.heap.size, 3, none⟩ = some (.int .i64 at') := by rw [← hw1]; simp
  clear hw1
  have hq0 : w1 = w1.drewN 0 := rfl
  have HQ0 := Lib.hid hq0
  clear hq0
  go_loopw [3] (fun i wr => ∃ k : Nat, k ≤ n ∧ i = .int .i64 k ∧ (∀ j, j < k → (str ps j).size ≤ 50) ∧ ∃ q, wr = w1.drewN q) (fun i _ => n - (intOf i).toNat)
  case atStart => exact ⟨0, Nat.zero_le _, rfl, fun j hj => absurd hj (by omega), 0, HQ0.out⟩
  case round =>
    obtain ⟨k, hk, rfl, hz, q, rfl⟩ := hrel
    have HZ := Lib.hid hz
    clear hz
    rcases ha with rfl | hn0
    all_goals by_cases hlt : k < n
    · have h1 := HB1.out.cell (p := ⟨b, off + k, none⟩) (HC.out k hlt).1 |>.trans (HC.out k hlt).2.1
      have h2 := (HC.out k hlt).2.2
      by_cases hv : (str ps k).size ≤ 50
      · go_wp2
        go_roundw
        case rel =>
          refine ⟨k + 1, by omega, by go_num, fun j hj => ?_, _, rfl⟩
          by_cases e : j = k
          · rw [e]; exact hv
          · exact HZ.out j (by omega)
        case measure => simp [intOf]; omega
      · have hv' : decide (50 < ((str ps k).size : Int)) = true := by simp; omega
        go_wp2
        go_ret
        refine ⟨?_, below_drewN HB1.out _⟩
        show Ending.returned (.bool false) = _
        rw [HR.out, few_stop (by rw [HL.out]; exact hlt) (by omega)]
    · have hkn : k = n := by omega
      have HK := Lib.hid hkn
      have d0 : decide ((k : Int) < n) = false := by simp; omega
      by_cases h20 : n ≤ 20
      · have d1 : decide ((n : Int) ≤ 20) = true := by simp; omega
        by_cases hlo : -1152921504606846976 < at'
        · have d2 : decide (-1152921504606846976 < at') = true := by simp; omega
          clear hkn h20 hlo
          go_wp2
          go_ret
          refine ⟨?_, below_drewN HB1.out _⟩
          show Ending.returned (.bool (decide (at' < 1152921504606846976))) = _
          rw [HR.out, few_end HL.out (by rw [← HK.out]; exact HZ.out) true true _ d1 d2 rfl]
          simp
        · have d2 : decide (-1152921504606846976 < at') = false := by simp; omega
          clear hkn h20 hlo
          go_wp2
          go_ret
          refine ⟨?_, below_drewN HB1.out _⟩
          show Ending.returned (.bool false) = _
          rw [HR.out, few_end HL.out (by rw [← HK.out]; exact HZ.out) true false _ d1 d2 rfl]
          simp
      · have d1 : decide ((n : Int) ≤ 20) = false := by simp; omega
        clear hkn h20
        go_wp2
        go_ret
        refine ⟨?_, below_drewN HB1.out _⟩
        show Ending.returned (.bool false) = _
        rw [HR.out, few_end HL.out (by rw [← HK.out]; exact HZ.out) false _ _ d1 rfl rfl]
        simp
    · exact absurd hlt (by omega)
    · have hkn : k = n := by omega
      have HK := Lib.hid hkn
      have d0 : decide ((k : Int) < n) = false := by simp; omega
      by_cases h20 : n ≤ 20
      · have d1 : decide ((n : Int) ≤ 20) = true := by simp; omega
        by_cases hlo : -1152921504606846976 < at'
        · have d2 : decide (-1152921504606846976 < at') = true := by simp; omega
          clear hkn h20 hlo
          go_wp2
          go_ret
          refine ⟨?_, below_drewN HB1.out _⟩
          show Ending.returned (.bool (decide (at' < 1152921504606846976))) = _
          rw [HR.out, few_end HL.out (by rw [← HK.out]; exact HZ.out) true true _ d1 d2 rfl]
          simp
        · have d2 : decide (-1152921504606846976 < at') = false := by simp; omega
          clear hkn h20 hlo
          go_wp2
          go_ret
          refine ⟨?_, below_drewN HB1.out _⟩
          show Ending.returned (.bool false) = _
          rw [HR.out, few_end HL.out (by rw [← HK.out]; exact HZ.out) true false _ d1 d2 rfl]
          simp
      · have d1 : decide ((n : Int) ≤ 20) = false := by simp; omega
        clear hkn h20
        go_wp2
        go_ret
        refine ⟨?_, below_drewN HB1.out _⟩
        show Ending.returned (.bool false) = _
        rw [HR.out, few_end HL.out (by rw [← HK.out]; exact HZ.out) false _ _ d1 rfl rfl]
        simp

/-- the error that build makes -/
def baseE (cod at' : Int) : Bool → EV
  | true => .flt cod at'
  | false => .code cod
def wrapE (e : EV) (ps : List ByteArray) : EV := ps.foldl (fun e p => .inn p e) e
theorem wrapE_take {e : EV} {ps : List ByteArray} {k : Nat} (hk : k < ps.length) : wrapE e (ps.take (k + 1)) = .inn (str ps k) (wrapE e (ps.take k)) := by
  rw [List.take_succ_eq_append_getElem hk]
  simp only [wrapE, List.foldl_append, List.foldl_cons, List.foldl_nil]
  rw [show str ps k = ps[k] by simp [str, List.getD, hk]]

theorem build_nil (a : Option Addr) (n c : Nat) (cod at' : Int) (fl : Bool) (w : World) :
    Calls Tryd.prog 9 #[.agg #[.bool true, .slice a n c, .int .i64 cod, .int .i64 at', .bool fl]] w fun e w' => e = .returned .nilIface ∧ Below w.heap.size w w' := by
  have HW := Lib.hid ((Below.refl _ w).alloc (Nat.le_refl _) (.cells #[.bool true, .slice a n c, .int .i64 cod, .int .i64 at', .bool fl] 24))
  go_enter Tryd.func9, Tryd.ntmps9
  go_wp2
  go_ret
  exact ⟨rfl, HW.out⟩

set_option maxHeartbeats 4000000 in
theorem build_any (a : Option Addr) (n c : Nat) (ps : List ByteArray) (cod at' : Int) (fl : Bool) (w : World) (hs : Strs w a n ps) (hnc : n ≤ c) (hc : c ≤ 9223372036854775807) :
    Calls Tryd.prog 9 #[.agg #[.bool false, .slice a n c, .int .i64 cod, .int .i64 at', .bool fl]] w fun e w' => e = .returned (.iface (wrapE (baseE cod at' fl) ps).ty (wrapE (baseE cod at' fl) ps).body) ∧ Below w.heap.size w w' := by
  obtain ⟨hl, b, off, ha, hcell⟩ := hs.loc
  have HC := Lib.hid hcell
  have HL := Lib.hid hl
  clear hcell hl hs
  obtain ⟨R, hR⟩ : ∃ R : Value, R = .iface (wrapE (baseE cod at' fl) ps).ty (wrapE (baseE cod at' fl) ps).body := ⟨_, rfl⟩
  rw [← hR]
  have HR := Lib.hid hR
  clear hR
  cases fl
  all_goals go_enter Tryd.func9, Tryd.ntmps9
  all_goals go_wp2
  · obtain ⟨w1, hw1⟩ : ∃ w1, w.alloc (.cells #[.bool false, .slice a n c, .int .i64 cod, .int .i64 at', .bool false] 24) = w1 := ⟨_, rfl⟩
    rw [hw1]
    have HB1 := Lib.hid (show Below w.heap.size w w1 by rw [← hw1]; exact (Below.refl _ w).alloc (Nat.le_refl _) _)
    have c1 : w1.cell? ⟨w.heap.size, 1, none⟩ = some (.slice a n c) := by rw [← hw1]; simp
    clear hw1
    have HQ0 := Lib.hid (show w1 = w1.drewN 0 from rfl)
    go_loopw [3, 4] (fun E i wr => ∃ k : Nat, k ≤ n ∧ i = .int .i64 k ∧ E = .iface (wrapE (baseE cod at' false) (ps.take k)).ty (wrapE (baseE cod at' false) (ps.take k)).body ∧ ∃ q, wr = w1.drewN q) (fun _ i _ => n - (intOf i).toNat)
    case atStart => exact ⟨0, Nat.zero_le _, rfl, rfl, 0, HQ0.out⟩
    case round =>
      obtain ⟨k, hk, rfl, rfl, q, rfl⟩ := hrel
      rcases ha with rfl | hn0
      all_goals by_cases hlt : k < n
      · have h1 := HB1.out.cell (p := ⟨b, off + k, none⟩) (HC.out k hlt).1 |>.trans (HC.out k hlt).2.1
        go_wp2_with fail
        refine (in_any _ (wrapE (baseE cod at' false) (ps.take k)) _).mono ?_
        rintro e w' ⟨rfl, rfl⟩
        rw [← wrapE_take (by rw [HL.out]; exact hlt)]
        go_wp2
        go_roundw
        case rel => exact ⟨k + 1, by omega, by go_num, rfl, _, rfl⟩
        case measure => simp [intOf]; omega
      · have hkn : k = n := by omega
        have HK := Lib.hid hkn
        clear hkn
        go_wp2
        go_ret
        refine ⟨?_, below_drewN HB1.out _⟩
        rw [HR.out, HK.out, ← HL.out, List.take_length]
        rfl
      · exact absurd hlt (by omega)
      · have hkn : k = n := by omega
        have HK := Lib.hid hkn
        clear hkn
        go_wp2
        go_ret
        refine ⟨?_, below_drewN HB1.out _⟩
        rw [HR.out, HK.out, ← HL.out, List.take_length]
        rfl
  · obtain ⟨w1, hw1⟩ : ∃ w1, w.alloc (.cells #[.bool false, .slice a n c, .int .i64 cod, .int .i64 at', .bool true] 24) = w1 := ⟨_, rfl⟩
    rw [hw1]
    have HB1 := Lib.hid (show Below w.heap.size w w1 by rw [← hw1]; exact (Below.refl _ w).alloc (Nat.le_refl _) _)
    have c1 : w1.cell? ⟨w.heap.size, 1, none⟩ = some (.slice a n c) := by rw [← hw1]; simp
    clear hw1
    have HQ0 := Lib.hid (show w1 = w1.drewN 0 from rfl)
    go_loopw [3, 4] (fun E i wr => ∃ k : Nat, k ≤ n ∧ i = .int .i64 k ∧ E = .iface (wrapE (baseE cod at' true) (ps.take k)).ty (wrapE (baseE cod at' true) (ps.take k)).body ∧ ∃ q, wr = w1.drewN q) (fun _ i _ => n - (intOf i).toNat)
    case atStart => exact ⟨0, Nat.zero_le _, rfl, rfl, 0, HQ0.out⟩
    case round =>
      obtain ⟨k, hk, rfl, rfl, q, rfl⟩ := hrel
      rcases ha with rfl | hn0
      all_goals by_cases hlt : k < n
      · have h1 := HB1.out.cell (p := ⟨b, off + k, none⟩) (HC.out k hlt).1 |>.trans (HC.out k hlt).2.1
        go_wp2_with fail
        refine (in_any _ (wrapE (baseE cod at' true) (ps.take k)) _).mono ?_
        rintro e w' ⟨rfl, rfl⟩
        rw [← wrapE_take (by rw [HL.out]; exact hlt)]
        go_wp2
        go_roundw
        case rel => exact ⟨k + 1, by omega, by go_num, rfl, _, rfl⟩
        case measure => simp [intOf]; omega
      · have hkn : k = n := by omega
        have HK := Lib.hid hkn
        clear hkn
        go_wp2
        go_ret
        refine ⟨?_, below_drewN HB1.out _⟩
        rw [HR.out, HK.out, ← HL.out, List.take_length]
        rfl
      · exact absurd hlt (by omega)
      · have hkn : k = n := by omega
        have HK := Lib.hid hkn
        clear hkn
        go_wp2
        go_ret
        refine ⟨?_, below_drewN HB1.out _⟩
        rw [HR.out, HK.out, ← HL.out, List.take_length]
        rfl
end Go.Proofs.YtlaofaopajcfkaaDoor

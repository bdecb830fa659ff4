/- The reference's Host: the same names as address.Host. -/
import Derived.Test.YtmncmbbgdkkgaaaGreatDoorAd19
import Derived.Laws.RangeAny
namespace Go.Proofs.YtmncmbbgdkkgaaaGreatDoor
set_option maxRecDepth 100000
set_option linter.unusedVariables false
open Go.RowKit

def goodB (b : UInt8) : Bool := decide (33 ≤ b.toNat) && decide (b.toNat ≤ 126)
def refHostB (s : ByteArray) : Bool := s.data.toList.all goodB && (decide (1 ≤ s.size) && decide (s.size ≤ 255))
theorem odd_from (s : ByteArray) : ∀ (f pos : Nat), s.size ≤ pos + f → decide (0 ≤ Lib.idxFuncFrom oddR true s f pos) = !((s.data.toList.drop pos).all goodB)
  | 0, pos, h => by
    have : s.data.toList.drop pos = [] := List.drop_eq_nil_of_le (by rw [Array.length_toList]; exact h)
    rw [this]
    simp [Lib.idxFuncFrom]
  | f + 1, pos, h => by
    unfold Lib.idxFuncFrom
    by_cases hp : pos < s.size
    · rw [if_pos hp]
      have hd : s.data.toList.drop pos = s[pos] :: s.data.toList.drop (pos + 1) := by
        rw [List.drop_eq_getElem_cons (by rw [Array.length_toList]; exact hp)]
        congr 1
      rw [hd, List.all_cons]
      by_cases ha : (s[pos]'hp).toNat < 128
      · rw [decode_ascii s pos hp ha]
        by_cases ho : oddR (s[pos]'hp).toNat = true
        · rw [if_pos ho]
          have hg : goodB (s[pos]'hp) = false := by
            simp only [oddR, Bool.or_eq_true, decide_eq_true_eq] at ho
            simp only [goodB, Bool.and_eq_false_iff, decide_eq_false_iff_not]
            omega
          rw [hg]
          simp
        · rw [if_neg ho, odd_from s f (pos + 1) (by omega)]
          have hg : goodB (s[pos]'hp) = true := by
            simp only [oddR, Bool.or_eq_true, decide_eq_true_eq] at ho
            simp only [goodB, Bool.and_eq_true, decide_eq_true_eq]
            omega
          rw [hg, Bool.true_and]
      · have h2 := (decode_high s pos hp (by omega)).1
        have ho : oddR (Utf8.decode s pos).1 = true := by
          simp only [oddR, Bool.or_eq_true, decide_eq_true_eq]
          omega
        rw [if_pos ho]
        have hg : goodB (s[pos]'hp) = false := by
          simp only [goodB, Bool.and_eq_false_iff, decide_eq_false_iff_not]
          omega
        rw [hg]
        simp
    · rw [if_neg hp]
      have : s.data.toList.drop pos = [] := List.drop_eq_nil_of_le (by rw [Array.length_toList]; exact Nat.le_of_not_lt hp)
      rw [this]
      simp
theorem host_ref (s : ByteArray) : hostB s = refHostB s := by
  unfold hostB refHostB oddS Lib.idxFunc
  rw [odd_from s s.size 0 (by omega), List.drop_zero, Bool.not_not]
  congr 2
  rw [Bool.eq_iff_iff, decide_eq_true_iff, decide_eq_true_iff]
  omega
set_option maxHeartbeats 4000000 in
theorem refhost_any (s : ByteArray) (w : World) (hs : s.size ≤ 9223372036854775807) : Calls Tryz.prog 9 #[.string s] w fun e w' => e = .returned (.bool (refHostB s)) ∧ Below w.heap.size w w' := by
  go_enter Tryz.func9, Tryz.ntmps9
  go_wp2
  go_loopw [3] (fun i wr => ∃ j : Nat, j ≤ s.size ∧ i = .int .i64 j ∧ (s.data.toList.take j).all goodB = true ∧ wr = w) (fun i _ => s.size - (intOf i).toNat)
  case atStart => exact ⟨0, Nat.zero_le _, rfl, rfl, rfl⟩
  case round =>
    obtain ⟨j, hj, rfl, hall, rfl⟩ := hrel
    have HALL := Lib.hid hall
    clear hall
    by_cases hlt : j < s.size
    · have hd : s.data.toList.drop j = s[j] :: s.data.toList.drop (j + 1) := by
        rw [List.drop_eq_getElem_cons (by rw [Array.length_toList]; exact hlt)]
        congr 1
      have HD := Lib.hid hd
      have ht : s.data.toList.take (j + 1) = s.data.toList.take j ++ [s[j]] := by
        rw [List.take_succ_eq_append_getElem (by rw [Array.length_toList]; exact hlt)]
        congr 1
      have HT := Lib.hid ht
      have hbad : goodB s[j] = false → refHostB s = false := fun hg => by
        unfold refHostB
        have : s.data.toList.all goodB = false := by
          rw [← List.take_append_drop j s.data.toList, HD.out, List.all_append, List.all_cons, hg]
          simp
        rw [this, Bool.false_and]
      have HBAD := Lib.hid hbad
      clear hd ht hbad
      cases d1 : decide ((s[j].toNat : Int) < 33) with
      | true =>
        have hg : goodB s[j] = false := by
          simp only [decide_eq_true_eq] at d1
          simp only [goodB, Bool.and_eq_false_iff, decide_eq_false_iff_not]
          omega
        have HR := Lib.hid (HBAD.out hg)
        clear hg
        go_wp2
        go_ret
        exact ⟨ret_bool HR.out.symm, Below.refl _ _⟩
      | false =>
        cases d2 : decide (126 < (s[j].toNat : Int)) with
        | true =>
          have hg : goodB s[j] = false := by
            simp only [decide_eq_true_eq] at d2
            simp only [goodB, Bool.and_eq_false_iff, decide_eq_false_iff_not]
            omega
          have HR := Lib.hid (HBAD.out hg)
          clear hg
          go_wp2
          go_ret
          exact ⟨ret_bool HR.out.symm, Below.refl _ _⟩
        | false =>
          have hg : goodB s[j] = true := by
            simp only [decide_eq_false_iff_not] at d1 d2
            simp only [goodB, Bool.and_eq_true, decide_eq_true_eq]
            omega
          have HR := Lib.hid (show (s.data.toList.take (j + 1)).all goodB = true by rw [HT.out, List.all_append, HALL.out]; simp [hg])
          clear hg
          go_wp2
          go_roundw
          case rel => exact ⟨j + 1, by omega, by go_num, HR.out, trivial⟩
          case measure => simp [intOf]; omega
    · obtain rfl : j = s.size := by omega
      have HR := Lib.hid (show refHostB s = (decide (1 ≤ s.size) && decide (s.size ≤ 255)) by
        have := HALL.out
        rw [List.take_of_length_le (by rw [Array.length_toList]; exact Nat.le_refl _)] at this
        unfold refHostB
        rw [this, Bool.true_and])
      cases d1 : decide ((1 : Int) ≤ (s.size : Int)) with
      | true =>
        cases d2 : decide ((s.size : Int) ≤ 255) with
        | true =>
          go_wp2
          go_ret
          refine ⟨ret_bool ?_, Below.refl _ _⟩
          rw [HR.out]
          simp at d1 d2 ⊢
          omega
        | false =>
          go_wp2
          go_ret
          refine ⟨ret_bool ?_, Below.refl _ _⟩
          rw [HR.out]
          simp at d1 d2 ⊢
          omega
      | false =>
        go_wp2
        go_ret
        refine ⟨ret_bool ?_, Below.refl _ _⟩
        rw [HR.out]
        simp at d1 ⊢
        omega
end Go.Proofs.YtmncmbbgdkkgaaaGreatDoor

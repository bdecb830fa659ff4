/- Plain laws for the last walks of layer 4. -/
import Derived.Test.YtadlmefdkpbflaaPoly17
namespace Go.Proofs.Ytadlmefdkpbflaa
open Go.RowKit

theorem cmul_mod2 (q g : Nat) (hg : g % 2 = 1) : cmul q g % 2 = q % 2 := by
  rw [cmul_step, nat_xor_mod2]
  by_cases h : q % 2 = 1
  · rw [if_pos h]; omega
  · rw [if_neg h]; omega
theorem no_power {g k : Nat} (hg : g % 2 = 1) (hk : 1 ≤ k) (hl : g < 2 ^ (k + 1)) (ht : g.testBit k = true) : ∀ n q, cmul q g ≠ 2 ^ n := by
  intro n
  induction n with
  | zero =>
    intro q he
    have hm := cmul_mod2 q g hg
    rw [he] at hm
    have hq : q ≠ 0 := fun e => by rw [e] at hm; simp at hm
    have htq := top_sz hq
    have hsz : sz q ≠ 0 := fun e => hq (sz_zero_iff.1 e)
    have h1 := cmul_top hl ht (m := sz q - 1) (a := q) (by rw [Nat.sub_add_cancel (by omega)]; exact lt_sz q) htq
    rw [he, Nat.pow_zero] at h1
    rw [Nat.testBit_lt_two_pow (show 1 < 2 ^ (sz q - 1 + k) from Nat.one_lt_two_pow (by omega))] at h1
    cases h1
  | succ n ih =>
    intro q he
    have hm := cmul_mod2 q g hg
    rw [he, Nat.pow_succ] at hm
    have hq2 : q = 2 * (q / 2) := by omega
    rw [hq2, cmul_two_left, Nat.pow_succ] at he
    exact ih (q / 2) (by omega)
theorem gen_rest {n r : Nat} (h : IsMod (1 <<< n) (genAt 18) r) : r ≠ 0 := fun e => by
  subst e
  obtain ⟨_, q, hq⟩ := h
  rw [Nat.xor_zero, Nat.one_shiftLeft] at hq
  exact no_power (g := genAt 18) (k := 32) (by decide +kernel) (by omega) (by decide +kernel) (by decide +kernel) n q hq.symm

theorem ofBit_left {xs ys : List Int} {K : Nat} (h : K < 8 * xs.length) : ofBit (xs ++ ys) K = ofBit xs K := by
  unfold ofBit; rw [nth_append_left (by omega)]
theorem ofBit_right {xs ys : List Int} {K : Nat} (h : 8 * xs.length ≤ K) : ofBit (xs ++ ys) K = ofBit ys (K - 8 * xs.length) := by
  unfold ofBit
  rw [nth_append_right (by omega), show K / 8 - xs.length = (K - 8 * xs.length) / 8 by omega, show (K - 8 * xs.length) % 8 = K % 8 by omega]
theorem testBit_ofP (zs : List Int) (j : Nat) : (ofP zs).testBit j = (decide (j < 8 * zs.length) && decide (ofBit zs (8 * zs.length - 1 - j) = 1)) := by
  unfold ofP
  rw [testBit_toN]
  by_cases h : j < 8 * zs.length
  · rw [nth_ofL h]
    rcases ofBit_bit zs (8 * zs.length - 1 - j) with e | e <;> rw [e] <;> simp [h]
  · rw [nth_ge (by rw [ofL_length]; omega)]
    simp [h]
theorem ofP_append (xs ys : List Int) : ofP (xs ++ ys) = (ofP xs <<< (8 * ys.length)) ^^^ ofP ys := by
  apply Nat.eq_of_testBit_eq
  intro j
  rw [Nat.testBit_xor, Nat.testBit_shiftLeft, testBit_ofP, testBit_ofP, testBit_ofP, List.length_append]
  by_cases h1 : j < 8 * ys.length
  · rw [ofBit_right (by omega), show 8 * (xs.length + ys.length) - 1 - j - 8 * xs.length = 8 * ys.length - 1 - j by omega]
    simp [h1, show ¬ 8 * ys.length ≤ j by omega, show j < 8 * (xs.length + ys.length) by omega]
  · by_cases h2 : j < 8 * (xs.length + ys.length)
    · rw [ofBit_left (by omega), show 8 * (xs.length + ys.length) - 1 - j = 8 * xs.length - 1 - (j - 8 * ys.length) by omega]
      simp [h1, h2, show 8 * ys.length ≤ j by omega, show j - 8 * ys.length < 8 * xs.length by omega]
    · simp [h1, h2, show ¬ j - 8 * ys.length < 8 * xs.length by omega]

theorem ones_nat (n : Nat) (w : World) (h2 : n ≤ 1048576) :
    Calls Try.prog 20 #[.int .i64 n] w fun e w' => ∃ a c, e = .returned (.slice a n c) ∧ Ints .u8 w' a n c (List.replicate n 1) ∧ Below w.heap.size w w' := by
  by_cases h : n = 0
  · subst h
    refine (ones_no ((0 : Nat) : Int) w (by decide)).mono ?_
    rintro e w' ⟨rfl, rfl⟩
    exact ⟨none, 0, rfl, Ints.nil _ _, Below.refl _ _⟩
  · refine (ones_yes n w (by omega) h2).mono ?_
    rintro e w' ⟨g, rfl, hg, hk, hb⟩
    exact ⟨_, n, rfl, hk.ints (by simp) (by omega), hb⟩
theorem nth_onesL {j n t : Nat} : nth (onesL j n) t = if t < j then 1 else 0 := by
  unfold onesL
  by_cases ht : t < j
  · rw [nth_append_left (by simpa using ht), if_pos ht]
    unfold nth; rw [List.getD_eq_getElem?_getD, List.getElem?_replicate, if_pos ht]; rfl
  · rw [nth_append_right (by simp; omega), if_neg ht]
    unfold nth; rw [List.getD_eq_getElem?_getD, List.getElem?_replicate]; split <;> rfl
theorem onesL_set {j n : Nat} (h : j < n) : (onesL j n).set j 1 = onesL (j + 1) n := by
  refine ext_nth (by rw [List.length_set, onesL_length (by omega), onesL_length (by omega)]) (fun t ht => ?_)
  rw [List.length_set, onesL_length (by omega)] at ht
  rw [nth_set (by rw [onesL_length (by omega)]; exact h), nth_onesL, nth_onesL]
  by_cases e : t = j
  · rw [if_pos e, if_pos (by omega)]
  · rw [if_neg e]
    by_cases e2 : t < j
    · rw [if_pos e2, if_pos (by omega)]
    · rw [if_neg e2, if_neg (by omega)]
end Go.Proofs.Ytadlmefdkpbflaa

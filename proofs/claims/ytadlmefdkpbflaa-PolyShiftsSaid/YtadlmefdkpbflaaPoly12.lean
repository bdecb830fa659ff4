/- The word of a polynomial. -/
import Derived.Test.YtadlmefdkpbflaaPoly11
import Derived.Laws.BitsAllLaws
namespace Go.Proofs.Ytadlmefdkpbflaa
open Go.RowKit

theorem word_no (a : Option Addr) (n c : Nat) (zs : List Int) (w : World) (hx : Ints .u8 w a n c zs) (hB : Byt zs) (hs : 32 < sz (toN zs)) :
    Calls Try.prog 23 #[.slice a n c] w fun e w' => e = .returned (.tuple #[.int .u32 0, .bool false]) ∧ Below w.heap.size w w' := by
  have HX := Lib.hid hx
  have HB := Lib.hid hB
  clear hx hB
  go_enter Try.func23, Try.ntmps23
  go_wp2_with (go_at_call 18; refine (degree_any _ _ _ _ _ HX.out HB.out).mono ?_; rintro e w1 ⟨rfl, hb1⟩; have HB1 := Lib.hid hb1; clear hb1)
  go_ret2
  exact ⟨rfl, HB1.out⟩

/-- the word after k coefficients -/
def wordW (x : Nat) : Nat → Nat
  | 0 => 0
  | k + 1 => 2 * wordW x k + (x.testBit k).toNat
theorem wordW_lt (x k : Nat) : wordW x k < 2 ^ k := by
  induction k with
  | zero => simp [wordW]
  | succ k ih =>
    have : (x.testBit k).toNat ≤ 1 := Bool.toNat_le _
    rw [wordW, Nat.pow_succ]
    omega
theorem wordW_tail {x n : Nat} (h : sz x ≤ n) (d : Nat) : wordW x (n + d) = wordW x n * 2 ^ d := by
  induction d with
  | zero => simp
  | succ d ih =>
    rw [show n + (d + 1) = (n + d) + 1 from rfl, wordW, ih, testBit_ge_sz (by omega), Nat.pow_succ, ← Nat.mul_assoc]
    simp only [Bool.toNat_false, Nat.add_zero]
    rw [Nat.mul_assoc, Nat.mul_comm 2 (wordW x n * 2 ^ d), Nat.mul_assoc]

theorem nth_ofN_bit (x k : Nat) : nth (ofN x) k = ((x.testBit k).toNat : Int) := by
  have h := nth_ofN_mod x k
  have hb := (bitsL_bits x (sz x)).nth k
  rw [show bitsL x (sz x) = ofN x from rfl] at hb
  have h2 : nth (ofN x) k % 2 = nth (ofN x) k := by rcases hb with h | h <;> rw [h] <;> rfl
  rw [h2] at h
  rw [h]
  cases x.testBit k <;> rfl
theorem word_step (x : Nat) {k : Nat} (hk : k < 32) : bits .or .u32 (2 ^ (32 - k) * (wordW x k : Int)) (nth (ofN x) k % 4294967296 * 2 ^ (31 - k) % 4294967296) = ((2 ^ (32 - (k + 1)) * wordW x (k + 1) : Nat) : Int) := by
  have hb : (x.testBit k).toNat ≤ 1 := Bool.toNat_le _
  have hw := wordW_lt x k
  obtain ⟨b, hbe⟩ : ∃ b, b = (x.testBit k).toNat := ⟨_, rfl⟩
  obtain ⟨W, hW⟩ : ∃ W, W = wordW x k := ⟨_, rfl⟩
  rw [nth_ofN_bit, wordW, ← hbe, ← hW]
  rw [← hbe] at hb
  rw [← hW] at hw
  have h31 : 2 ^ (31 - k) ≤ 2 ^ 31 := Nat.pow_le_pow_right (by omega) (by omega)
  have e32 : 2 ^ (32 - k) = 2 ^ (31 - k) * 2 := by rw [← Nat.pow_succ]; congr 1; omega
  have hlt : b * 2 ^ (31 - k) < 2 ^ (32 - k) := by
    rw [e32]
    have hp : 0 < 2 ^ (31 - k) := Nat.two_pow_pos _
    have : b * 2 ^ (31 - k) ≤ 1 * 2 ^ (31 - k) := Nat.mul_le_mul_right _ hb
    omega
  have hlt1 : 2 ^ (32 - k) * W < 4294967296 := by
    have h1 : 2 ^ (32 - k) * W < 2 ^ (32 - k) * 2 ^ k := Nat.mul_lt_mul_of_pos_left hw (Nat.two_pow_pos _)
    rw [← Nat.pow_add, show 32 - k + k = 32 by omega] at h1
    exact h1
  have hlt2 : b * 2 ^ (31 - k) < 4294967296 := by
    have h1 : 2 ^ (32 - k) ≤ 2 ^ 32 := Nat.pow_le_pow_right (by omega) (by omega)
    omega
  have e1 : (2 : Int) ^ (32 - k) * (W : Int) = ((2 ^ (32 - k) * W : Nat) : Int) := by simp
  have e2 : (b : Int) % 4294967296 * 2 ^ (31 - k) % 4294967296 = ((b * 2 ^ (31 - k) : Nat) : Int) := by
    have h1 : (b : Int) % 4294967296 = (b : Int) := by omega
    rw [h1, show (b : Int) * 2 ^ (31 - k) = ((b * 2 ^ (31 - k) : Nat) : Int) by simp]
    omega
  rw [e1, e2, u32_or _ _ (by omega) (by omega) (by omega) (by omega), Int.toNat_natCast, Int.toNat_natCast]
  rw [← Nat.two_pow_add_eq_or_of_lt hlt, e32, show 32 - (k + 1) = 31 - k by omega, Nat.mul_add]
  congr 1
  rw [Nat.mul_assoc, Nat.mul_comm b]

theorem word_yes (a : Option Addr) (n c : Nat) (zs : List Int) (w : World) (hx : Ints .u8 w a n c zs) (hB : Byt zs) (hn : n ≤ 1099511627776) (hs : sz (toN zs) ≤ 32) :
    Calls Try.prog 23 #[.slice a n c] w fun e w' => e = .returned (.tuple #[.int .u32 (wordW (toN zs) 32 : Nat), .bool true]) ∧ Below w.heap.size w w' := by
  have HX := Lib.hid hx
  have HB := Lib.hid hB
  clear hx hB
  obtain ⟨x, hxe⟩ : ∃ x, x = toN zs := ⟨_, rfl⟩
  obtain ⟨N, hN⟩ : ∃ N, N = sz x := ⟨_, rfl⟩
  rw [← hxe] at hs ⊢
  rw [← hN] at hs
  have HXE := Lib.hid hxe
  have HN := Lib.hid hN
  clear hxe hN
  go_enter Try.func23, Try.ntmps23
  go_wp2_with fail
  refine (degree_any _ _ _ _ _ HX.out HB.out).mono ?_
  rintro e w1 ⟨rfl, hb1⟩
  rw [← HXE.out, ← HN.out]
  have HB1 := Lib.hid hb1
  have hs1 := hb1.size
  have HX1 := Lib.hid (HX.out.below hb1)
  clear hb1
  go_wp2_with fail
  refine (reduce_any _ _ _ _ _ HX1.out HB.out (by omega)).mono ?_
  rintro e w2 ⟨g, rfl, hg, hk2, hb2⟩
  rw [← HXE.out] at hk2 ⊢
  rw [← HN.out]
  have HK := Lib.hid hk2
  have HB2 := Lib.hid (HB1.out.trans (hb2.mono hs1))
  clear hk2 hb2
  go_wp2
  go_loop [4, 13] (fun v i => ∃ k : Nat, k ≤ N ∧ i = .int .i64 k ∧ v = .int .u32 ((2 ^ (32 - k) * wordW x k : Nat) : Int)) (fun _ i => N - (intOf i).toNat)
  case atStart => exact ⟨0, Nat.zero_le _, rfl, by simp [wordW]⟩
  case round =>
    obtain ⟨k, hk, rfl, rfl⟩ := hrel
    by_cases hlt : k < N
    · have h2 := HK.out.cell (i := k) (by rw [ofN_length, ← HN.out]; exact hlt)
      have hws := word_step x (k := k) (by omega)
      obtain ⟨v, hv⟩ : ∃ v : Nat, v = 2 ^ (32 - (k + 1)) * wordW x (k + 1) := ⟨_, rfl⟩
      rw [← hv] at hws
      have HV := Lib.hid hv
      clear hv
      go_wp2
      go_round
      case rel => exact ⟨k + 1, by omega, by go_num, by rw [HV.out]⟩
      case measure => simp [intOf]; omega
    · obtain rfl : k = N := by omega
      have hfin : 2 ^ (32 - k) * wordW x k = wordW x 32 := by
        have := wordW_tail (x := x) (n := k) (by rw [HN.out]; exact Nat.le_refl _) (32 - k)
        rw [show k + (32 - k) = 32 by omega] at this
        rw [this, Nat.mul_comm]
      rw [hfin]
      have hkk : Hid (Below w.heap.size w w2) := HB2
      clear hfin hlt
      go_wp2
      go_ret2
      exact ⟨rfl, hkk.out⟩

theorem refword_any (a : Option Addr) (n c : Nat) (zs : List Int) (w : World) (hx : Ints .u8 w a n c zs) (hB : Byt zs) :
    Calls Try.prog 25 #[.slice a n c] w fun e w' => e = .returned (.int .u32 (wordW (toN zs) 32 : Nat)) ∧ w = w' := by
  have HX := Lib.hid hx
  have HB := Lib.hid hB
  clear hx hB
  obtain ⟨x, hxe⟩ : ∃ x, x = toN zs := ⟨_, rfl⟩
  have HBT := Lib.hid (fun k => show nth zs k % 2 = ((x.testBit k).toNat : Int) by rw [hxe, testBit_toN]; rcases mod2 (nth zs k) with h | h <;> rw [h] <;> rfl)
  rw [← hxe]
  clear hxe
  go_enter Try.func25, Try.ntmps25
  go_wp2
  go_loop [3, 4] (fun v i => ∃ k : Nat, k ≤ 32 ∧ i = .int .i64 k ∧ v = .int .u32 ((wordW x k : Nat) : Int)) (fun _ i => 32 - (intOf i).toNat)
  case atStart => exact ⟨0, Nat.zero_le _, rfl, by simp [wordW]⟩
  case round =>
    obtain ⟨k, hk, rfl, rfl⟩ := hrel
    by_cases hlt : k < 32
    · have hl := wordW_lt x (k + 1)
      have hl2 : 2 ^ (k + 1) ≤ 2 ^ 32 := Nat.pow_le_pow_right (by omega) (by omega)
      have hst := Lib.hid (show wordW x (k + 1) = 2 * wordW x k + (x.testBit k).toNat from rfl)
      have hb : (x.testBit k).toNat ≤ 1 := Bool.toNat_le _
      rw [hst.out] at hl
      obtain ⟨b, hbe⟩ : ∃ b, b = (x.testBit k).toNat := ⟨_, rfl⟩
      obtain ⟨W, hW⟩ : ∃ W, W = wordW x k := ⟨_, rfl⟩
      have h3 : 2 * W + b < 4294967296 := by rw [hbe, hW]; omega
      rw [← hbe] at hb
      rw [← hW]
      have e1 : IntKind.u32.wrap ((W : Int) * 2) = (W : Int) * 2 := by rw [IntKind.wrap_u32']; omega
      have e2 : IntKind.u32.wrap ((W : Int) * 2 + (b : Int)) = (W : Int) * 2 + (b : Int) := by rw [IntKind.wrap_u32']; omega
      have HBE := Lib.hid hbe
      have HWE := Lib.hid hW
      clear hl hl2 hbe hW
      go_wp2_with fail
      refine (at_any _ _ _ _ k _ HX.out HB.out).mono ?_
      rintro e w1 ⟨rfl, rfl⟩
      rw [HBT.out k, ← HBE.out]
      go_wp2
      go_round
      case rel => exact ⟨k + 1, by omega, by go_num, by rw [hst.out, ← HBE.out, ← HWE.out]; congr 1; omega⟩
      case measure => simp [intOf]; omega
    · obtain rfl : k = 32 := by omega
      go_wp2
      go_ret
      exact ⟨rfl, rfl⟩
end Go.Proofs.Ytadlmefdkpbflaa

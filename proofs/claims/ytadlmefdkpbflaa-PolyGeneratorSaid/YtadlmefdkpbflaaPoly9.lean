/- The reference: Add, Mul. -/
import Derived.Test.YtadlmefdkpbflaaPoly8
namespace Go.Proofs.Ytadlmefdkpbflaa
open Go.RowKit

theorem sum_bit (xs ys : List Int) (j : Nat) : (nth xs j % 2 + nth ys j % 2) % 2 = if (toN xs ^^^ toN ys).testBit j = true then 1 else 0 := by
  rw [Nat.testBit_xor, testBit_toN, testBit_toN]
  rcases mod2 (nth xs j) with h | h <;> rcases mod2 (nth ys j) with k | k <;> rw [h, k] <;> rfl

theorem refadd_any (a b : Option Addr) (n c m d : Nat) (xs ys : List Int) (w : World) (hx : Ints .u8 w a n c xs) (hB : Byt xs) (hy : Ints .u8 w b m d ys) (hB2 : Byt ys) (hn : n ≤ 1073741824) (hm : m ≤ 1073741824) :
    Calls Try.prog 13 #[.slice a n c, .slice b m d] w fun e w' => PolyR w w' e (toN xs ^^^ toN ys) := by
  obtain ⟨i0, hi, hz0, hz1, hz2⟩ := info_parts info_u8
  have HX := Lib.hid hx
  have HY := Lib.hid hy
  have HB := Lib.hid hB
  have HB2 := Lib.hid hB2
  have hL := Lib.hid hx.len
  have hL2 := Lib.hid hy.len
  clear hx hB hy hB2
  obtain ⟨M, hM⟩ : ∃ M, M = max n m := ⟨_, rfl⟩
  have hM1 : n ≤ M ∧ m ≤ M ∧ M ≤ 1073741824 := by omega
  obtain ⟨z, hz⟩ : ∃ z, z = toN xs ^^^ toN ys := ⟨_, rfl⟩
  have hzl : z < 2 ^ M := by
    rw [hz]
    exact Nat.xor_lt_two_pow (Nat.lt_of_lt_of_le (toN_lt xs) (Nat.pow_le_pow_right (by omega) (by rw [hL.out]; exact hM1.1))) (Nat.lt_of_lt_of_le (toN_lt ys) (Nat.pow_le_pow_right (by omega) (by rw [hL2.out]; exact hM1.2.1)))
  have HZL := Lib.hid hzl
  have HS := Lib.hid (fun j => sum_bit xs ys j)
  rw [← hz] at HS ⊢
  clear hz hzl
  have hcs : (M = n ∧ m ≤ n) ∨ (M = m ∧ n < m) := by omega
  clear hM
  rcases hcs with ⟨rfl, hnm⟩ | ⟨rfl, hnm⟩
  all_goals
    go_enter Try.func13, Try.ntmps13
    go_wp2
    go_loopw [5, 6] (fun v i wr => ∃ j : Nat, j ≤ M ∧ i = .int .i64 j ∧ ∃ a' c', v = .slice a' j c' ∧ wr.ownsRow w.heap.size 5 1 v j ((bitsL z j).map (Value.int .u8)) ∧ Below w.heap.size w wr) (fun _ i _ => M - (intOf i).toNat)
    case atStart => exact ⟨0, Nat.zero_le _, rfl, none, 0, rfl, by simpa [bitsL] using World.ownsRow_nil _ _ _ _, Below.refl _ _⟩
    case round =>
      obtain ⟨j, hj, rfl, a', c', rfl, hown, hbw⟩ := hrel
      have HO := Lib.hid hown
      have HW := Lib.hid hbw
      have hszr : w.heap.size ≤ wr.heap.size := hbw.size
      clear hown hbw
      by_cases hlt : j < M
      · have hst := Lib.hid (bitsL_succ z j)
        have hs1 := HS.out j
        obtain ⟨u, hu⟩ : ∃ u, u = nth xs j % 2 := ⟨_, rfl⟩
        obtain ⟨v, hv⟩ : ∃ v, v = nth ys j % 2 := ⟨_, rfl⟩
        have hu2 : 0 ≤ u ∧ u ≤ 1 := by omega
        have hv2 : 0 ≤ v ∧ v ≤ 1 := by omega
        rw [← hu, ← hv] at hs1
        have HS1 := Lib.hid hs1
        have HU := Lib.hid hu
        have HV := Lib.hid hv
        clear hs1 hu hv
        have HSL := Lib.hid (one_sl wr ((u + v) % 2) 5)
        go_wp2_with fail
        refine (at_any _ _ _ _ j _ (HX.out.below HW.out) HB.out).mono ?_
        rintro e w1 ⟨rfl, rfl⟩
        rw [← HU.out]
        go_wp2_with fail
        refine (at_any _ _ _ _ j _ (HY.out.below HW.out) HB2.out).mono ?_
        rintro e w1 ⟨rfl, rfl⟩
        rw [← HV.out]
        go_wp2_with (at_builtin; refine append_own_any _ rfl _ _ 22 rfl w.heap.size 5 i0 (.int .u8 0) 1 Try.underlying22 hi hz0 hz1 hz2 rfl (.slice a' j c') _ _ rfl (HO.out.alloc _) _ _ _ _ rfl HSL.out (ints_oneCell .u8 [(u + v) % 2]) (by unfold maxLen; omega) (by omega) (by simp; omega) ?_; intro v' w3 hown1 hgrow)
        have hown' := hown1.out
        rw [HS1.out, show [Value.int .u8 (if z.testBit j = true then 1 else 0)] = [if z.testBit j = true then (1 : Int) else 0].map (Value.int .u8) from rfl, ← List.map_append, ← hst.out] at hown'
        obtain ⟨a3, c3, hv3, _⟩ := Sl.own hown'
        subst hv3
        have HO2 := Lib.hid hown'
        have HW2 := Lib.hid ((HW.out.alloc hszr (.cells #[.int .u8 ((u + v) % 2)] 5)).grown hgrow.out (by simp; omega) (fun k' hk' => (HO.out.lt k' hk').1))
        go_roundw
        case rel => exact ⟨j + 1, by omega, by go_num, a3, c3, rfl, HO2.out, HW2.out⟩
        case measure => simp [intOf]; omega
      · obtain rfl : j = M := by omega
        obtain ⟨a3, c3, hv3, hI⟩ := Ints.own HO.out
        cases hv3
        have HI := Lib.hid hI
        have hT := Lib.hid (toN_bitsL HZL.out)
        clear hI hlt
        go_wp2_with (go_at_call 17; refine (refreduce_any _ _ _ _ _ HI.out (bitsL_byt _ _) (by omega)).mono ?_; rintro e w4 ⟨a4, c4, rfl, hI4, hb4⟩; rw [hT.out] at hI4 ⊢; have HI4 := Lib.hid hI4; have HB4 := Lib.hid (HW.out.trans (hb4.mono hszr)); clear hI4 hb4)
        go_ret
        exact ⟨_, _, rfl, HI4.out, HB4.out⟩

def convS (xs ys : List Int) (i : Nat) : Nat → Int
  | 0 => 0
  | k + 1 => convS xs ys i k + (nth xs k % 2) * (nth ys (i - k) % 2)
theorem convS_nil (ys : List Int) (i k : Nat) : convS [] ys i k = 0 := by
  induction k with
  | zero => rfl
  | succ k ih => simp [convS, ih, nth]
theorem convS_cons (z : Int) (xs ys : List Int) (i k : Nat) : convS (z :: xs) ys (i + 1) (k + 1) = (z % 2) * (nth ys (i + 1) % 2) + convS xs ys i k := by
  induction k with
  | zero => simp [convS, nth_cons_zero]
  | succ k ih => rw [convS, ih, convS, nth_cons_succ, Nat.add_sub_add_right]; omega
theorem bit_mul (p q : Int) (hp : p = 0 ∨ p = 1) (hq : q = 0 ∨ q = 1) : p * q = 0 ∨ p * q = 1 := by
  rcases hp with rfl | rfl <;> rcases hq with rfl | rfl <;> simp
theorem convS_range (xs ys : List Int) (i k : Nat) : 0 ≤ convS xs ys i k ∧ convS xs ys i k ≤ k := by
  induction k with
  | zero => simp [convS]
  | succ k ih =>
    have := bit_mul _ _ (mod2 (nth xs k)) (mod2 (nth ys (i - k)))
    rw [convS]
    omega
theorem conv_bit (ys : List Int) : ∀ (xs : List Int) (i : Nat), convS xs ys i (i + 1) % 2 = if (cmul (toN xs) (toN ys)).testBit i = true then 1 else 0
  | [], i => by rw [convS_nil]; simp [toN, cmul_zero]
  | z :: xs, i => by
    have hd : (toN (z :: xs)) / 2 = toN xs := by simp only [toN]; have := mod2 z; omega
    have hm : (toN (z :: xs)) % 2 = (z % 2).toNat := by simp only [toN]; have := mod2 z; omega
    rw [cmul_step, hd, hm, Nat.testBit_xor]
    cases i with
    | zero =>
      have h0 : (2 * cmul (toN xs) (toN ys)).testBit 0 = false := by simp [Nat.testBit_zero]
      have h1 : convS (z :: xs) ys 0 (0 + 1) = (z % 2) * (nth ys 0 % 2) := by simp [convS, nth_cons_zero]
      rw [h0, h1]
      rcases mod2 z with h | h
      · rw [h]; simp
      · rw [h]
        simp only [Int.toNat_one, if_pos, testBit_toN]
        rcases mod2 (nth ys 0) with k | k <;> rw [k] <;> rfl
    | succ i =>
      rw [testBit_two, convS_cons]
      have ih := conv_bit ys xs i
      have hr := mod2 (convS xs ys i (i + 1))
      rcases mod2 z with h | h
      · rw [h]; simp; exact ih
      · rw [h]
        simp only [Int.toNat_one, if_pos, testBit_toN]
        by_cases hc : (cmul (toN xs) (toN ys)).testBit i = true
        · rw [hc] at ih ⊢
          rw [if_pos rfl] at ih
          rcases mod2 (nth ys (i + 1)) with k | k <;> rw [k] <;> simp <;> omega
        · have hc : (cmul (toN xs) (toN ys)).testBit i = false := by simpa using hc
          rw [hc] at ih ⊢
          rw [if_neg (by simp)] at ih
          rcases mod2 (nth ys (i + 1)) with k | k <;> rw [k] <;> simp <;> omega

set_option maxHeartbeats 4000000 in
theorem refmul_any (a b : Option Addr) (n c m d : Nat) (xs ys : List Int) (w : World) (hx : Ints .u8 w a n c xs) (hB : Byt xs) (hy : Ints .u8 w b m d ys) (hB2 : Byt ys) (hn : n ≤ 1073741824) (hm : m ≤ 1073741824) :
    Calls Try.prog 15 #[.slice a n c, .slice b m d] w fun e w' => PolyR w w' e (cmul (toN xs) (toN ys)) := by
  obtain ⟨i0, hi, hz0, hz1, hz2⟩ := info_parts info_u8
  have HX := Lib.hid hx
  have HY := Lib.hid hy
  have HB := Lib.hid hB
  have HB2 := Lib.hid hB2
  have hL := Lib.hid hx.len
  have hL2 := Lib.hid hy.len
  clear hx hB hy hB2
  obtain ⟨M, hM⟩ : ∃ M, M = n + m := ⟨_, rfl⟩
  have hM1 : M ≤ 2147483648 := by omega
  have hMz : (n : Int) + (m : Int) = (M : Int) := by omega
  obtain ⟨z, hz⟩ : ∃ z, z = cmul (toN xs) (toN ys) := ⟨_, rfl⟩
  have hzl : z < 2 ^ M := by
    rw [hz, hM, ← hL.out, ← hL2.out]
    exact cmul_lt (toN_lt xs) (toN_lt ys)
  have HZL := Lib.hid hzl
  have HS := Lib.hid (fun j => conv_bit ys xs j)
  rw [← hz] at HS ⊢
  clear hM hz hzl
  go_enter Try.func15, Try.ntmps15
  go_wp2
  go_loopw [5, 6] (fun v i wr => ∃ j : Nat, j ≤ M ∧ i = .int .i64 j ∧ ∃ a' c', v = .slice a' j c' ∧ wr.ownsRow w.heap.size 5 1 v j ((bitsL z j).map (Value.int .u8)) ∧ Below w.heap.size w wr) (fun _ i _ => M - (intOf i).toNat)
  case atStart => exact ⟨0, Nat.zero_le _, rfl, none, 0, rfl, by simpa [bitsL] using World.ownsRow_nil _ _ _ _, Below.refl _ _⟩
  case round =>
    obtain ⟨j, hj, rfl, a', c', rfl, hown, hbw⟩ := hrel
    have HO := Lib.hid hown
    have HW := Lib.hid hbw
    have hszr : w.heap.size ≤ wr.heap.size := hbw.size
    clear hown hbw
    by_cases hlt : j < M
    · have hst := Lib.hid (bitsL_succ z j)
      have HS1 := Lib.hid (HS.out j)
      go_wp2
      go_loop [7, 8] (fun s i => ∃ k : Nat, k ≤ j + 1 ∧ i = .int .i64 k ∧ s = .int .i64 (convS xs ys j k)) (fun _ i => j + 1 - (intOf i).toNat)
      case atStart => exact ⟨0, Nat.zero_le _, rfl, rfl⟩
      case round =>
        obtain ⟨k, hk, rfl, rfl⟩ := hrel
        have hcr := convS_range xs ys j k
        by_cases hkj : k ≤ j
        · obtain ⟨S, hS⟩ : ∃ S, S = convS xs ys j k := ⟨_, rfl⟩
          have hn1 := Lib.hid (show convS xs ys j (k + 1) = convS xs ys j k + (nth xs k % 2) * (nth ys (j - k) % 2) from rfl)
          have hb := bit_mul _ _ (mod2 (nth xs k)) (mod2 (nth ys (j - k)))
          obtain ⟨u, hu⟩ : ∃ u, u = nth xs k % 2 := ⟨_, rfl⟩
          obtain ⟨v, hv⟩ : ∃ v, v = nth ys (j - k) % 2 := ⟨_, rfl⟩
          rw [← hu, ← hv, ← hS] at hn1
          rw [← hu, ← hv] at hb
          rw [← hS] at hcr ⊢
          obtain ⟨p, hp⟩ : ∃ p, p = u * v := ⟨_, rfl⟩
          rw [← hp] at hn1 hb
          have e1 : IntKind.i64.wrap (u * v) = p := by rw [← hp, IntKind.wrap_i64]; omega
          have e2 : (j : Int) - (k : Int) = ((j - k : Nat) : Int) := by omega
          have HU := Lib.hid hu
          have HV := Lib.hid hv
          clear hu hv hp hS
          go_wp2_with fail
          refine (at_any _ _ _ _ k _ (HX.out.below HW.out) HB.out).mono ?_
          rintro e w1 ⟨rfl, rfl⟩
          rw [← HU.out]
          go_wp2_with fail
          refine (at_any _ _ _ _ (j - k) _ (HY.out.below HW.out) HB2.out).mono ?_
          rintro e w1 ⟨rfl, rfl⟩
          rw [← HV.out]
          go_wp2
          go_round
          case rel => exact ⟨k + 1, by omega, by go_num, by rw [hn1.out]⟩
          case measure => simp [intOf]; omega
        · obtain rfl : k = j + 1 := by omega
          obtain ⟨S, hS⟩ : ∃ S, S = convS xs ys j (j + 1) := ⟨_, rfl⟩
          rw [← hS] at hcr HS1 ⊢
          have HSL := Lib.hid (one_sl wr (S % 2) 5)
          clear hS hk
          go_wp2_with (at_builtin; refine append_own_any _ rfl _ _ 22 rfl w.heap.size 5 i0 (.int .u8 0) 1 Try.underlying22 hi hz0 hz1 hz2 rfl (.slice a' j c') _ _ rfl (HO.out.alloc _) _ _ _ _ rfl HSL.out (ints_oneCell .u8 [S % 2]) (by unfold maxLen; omega) (by omega) (by simp; omega) ?_; intro v' w3 hown1 hgrow)
          have hown' := hown1.out
          rw [HS1.out, show [Value.int .u8 (if z.testBit j = true then 1 else 0)] = [if z.testBit j = true then (1 : Int) else 0].map (Value.int .u8) from rfl, ← List.map_append, ← hst.out] at hown'
          obtain ⟨a3, c3, hv3, _⟩ := Sl.own hown'
          subst hv3
          have HO2 := Lib.hid hown'
          have HW2 := Lib.hid ((HW.out.alloc hszr (.cells #[.int .u8 (S % 2)] 5)).grown hgrow.out (by simp; omega) (fun k' hk' => (HO.out.lt k' hk').1))
          go_roundw
          case rel => exact ⟨j + 1, by omega, by go_num, a3, c3, rfl, HO2.out, HW2.out⟩
          case measure => simp [intOf]; omega
    · obtain rfl : j = M := by omega
      obtain ⟨a3, c3, hv3, hI⟩ := Ints.own HO.out
      cases hv3
      have HI := Lib.hid hI
      have hT := Lib.hid (toN_bitsL HZL.out)
      clear hI hlt
      go_wp2_with (go_at_call 17; refine (refreduce_any _ _ _ _ _ HI.out (bitsL_byt _ _) (by omega)).mono ?_; rintro e w4 ⟨a4, c4, rfl, hI4, hb4⟩; rw [hT.out] at hI4 ⊢; have HI4 := Lib.hid hI4; have HB4 := Lib.hid (HW.out.trans (hb4.mono hszr)); clear hI4 hb4)
      go_ret
      exact ⟨_, _, rfl, HI4.out, HB4.out⟩
end Go.Proofs.Ytadlmefdkpbflaa

/- poly.Mul. -/
import Derived.Test.YtadlmefdkpbflaaPoly3
import Derived.WalkMore
namespace Go.Proofs.Ytadlmefdkpbflaa
open Go.RowKit

theorem nat_xor_mod2 (a b : Nat) : (a ^^^ b) % 2 = (a + b) % 2 := by
  have h := Nat.testBit_xor a b 0
  rw [Nat.testBit_zero, Nat.testBit_zero, Nat.testBit_zero] at h
  have ha : a % 2 = 0 ∨ a % 2 = 1 := by omega
  have hb : b % 2 = 0 ∨ b % 2 = 1 := by omega
  have hc : (a ^^^ b) % 2 = 0 ∨ (a ^^^ b) % 2 = 1 := by omega
  rcases ha with ha | ha <;> rcases hb with hb | hb <;> rcases hc with hc | hc <;> rw [ha, hb, hc] at h <;> first | (simp at h; done) | omega
theorem xor_byte {a b : Int} (h0 : 0 ≤ a) (h1 : a < 256) (h2 : 0 ≤ b) (h3 : b < 256) : ∃ v, bits .xor .u8 a b = v ∧ 0 ≤ v ∧ v < 256 ∧ v % 2 = (a + b) % 2 := by
  refine ⟨_, u8_xor a b h0 h1 h2 h3, by omega, ?_, ?_⟩
  · have : a.toNat ^^^ b.toNat < 2 ^ 8 := Nat.xor_lt_two_pow (by omega) (by omega)
    omega
  · have := nat_xor_mod2 a.toNat b.toNat
    omega
/-- one coefficient more -/
theorem toN_take_succ {zs : List Int} {i : Nat} (h : i < zs.length) : toN (zs.take (i + 1)) = toN (zs.take i) ^^^ ((decide (nth zs i % 2 = 1)).toNat <<< i) := by
  apply Nat.eq_of_testBit_eq
  intro j
  rw [Nat.testBit_xor, testBit_toN, testBit_toN, testBit_shl_bool, take_succ_nth h]
  have hl : (zs.take i).length = i := by rw [List.length_take]; omega
  rcases Nat.lt_trichotomy j i with e | e | e
  · rw [nth_append_left (by omega)]
    simp [show ¬ j = i by omega]
  · subst e
    rw [nth_append_right (by omega), hl, Nat.sub_self, nth_cons_zero, nth_ge (zs := zs.take j) (by omega)]
    simp
  · rw [nth_append_right (by omega), nth_ge (zs := zs.take i) (by omega), nth_ge (by simp; omega)]
    simp [show ¬ j = i by omega]
theorem bool_step {z y v : Int} (h : v % 2 = (y + z) % 2) : v % 2 = (y + (decide (z % 2 = 1)).toNat) % 2 := by
  rcases mod2 z with e | e <;> simp [e] <;> omega
theorem byt_set {zs : List Int} (h : Byt zs) {i : Nat} {v : Int} (h0 : 0 ≤ v) (h1 : v < 256) : Byt (zs.set i v) := fun z hz => by
  rcases List.mem_or_eq_of_mem_set hz with h2 | h2
  · exact h z h2
  · subst h2; exact ⟨h0, h1⟩
theorem toN_zeros (n : Nat) : toN (List.replicate n 0) = 0 := toN_zero_of (fun i hi => by
  have : nth (List.replicate n (0 : Int)) i = 0 := by simp at hi; simp [nth, hi]
  rw [this]; rfl)

set_option maxHeartbeats 8000000 in
theorem mul_any (a b : Option Addr) (n c m d : Nat) (zs bs : List Int) (w : World) (hx : Ints .u8 w a n c zs) (hB : Byt zs) (hy : Ints .u8 w b m d bs) (hB2 : Byt bs) (hn : n ≤ 1073741824) (hm : m ≤ 1073741824) :
    Calls Try.prog 14 #[.slice a n c, .slice b m d] w fun e w' => ∃ g, e = .returned (.slice (some ⟨g, 0, none⟩) (sz (cmul (toN zs) (toN bs))) (sz (cmul (toN zs) (toN bs)))) ∧ w.heap.size ≤ g ∧ Blk w' g (ofN (cmul (toN zs) (toN bs))) ∧ Below w.heap.size w w' := by
  obtain ⟨i0, hi, hz0, hz1, hz2⟩ := info_parts info_u8
  have hcc := hx.cap
  have hdd := hy.cap
  have HB := Lib.hid hB
  have HB2 := Lib.hid hB2
  obtain ⟨b1, o1, ha, hcx⟩ := hx.loc
  obtain ⟨b2, o2, hb, hcy⟩ := hy.loc
  have HC := Lib.hid hcx
  have HD := Lib.hid hcy
  have HA := Lib.hid ha
  have HAB := Lib.hid hb
  have HL := Lib.hid hx.len
  have HM := Lib.hid hy.len
  clear hx hB hcx ha hy hB2 hcy hb
  go_enter Try.func14, Try.ntmps14
  go_wp2
  go_step3
  go_wp2_with (at_make; refine wpList_make_full _ rfl _ _ 24 rfl w.heap.size 5 i0 (.int .u8 0) 1 Try.underlying24 hi hz0 hz1 .i64 .i64 _ _ (n + m) rfl rfl rfl rfl (by rw [hz2]; omega) (by unfold maxLen; omega) (Nat.le_refl _) ?_; intro w2 hown hgrow; rw [zeros_cells] at hown; have HBW := Lib.hid (below_grown hgrow rfl); have HK := Lib.hid (blk_of_own hown); clear hown hgrow)
  go_step3
  go_wp2
  go_loopw [18] (fun i wr => ∃ j : Nat, j ≤ n ∧ i = .int .i64 j ∧ Below w.heap.size w wr ∧ ∃ ys, Blk wr w.heap.size ys ∧ ys.length = n + m ∧ Byt ys ∧ toN ys = cmul (toN (zs.take j)) (toN bs)) (fun i _ => n - (intOf i).toNat)
  case atStart => exact ⟨0, Nat.zero_le _, rfl, HBW.out, _, HK.out, by simp, Byt.replicate _, by rw [toN_zeros]; simp [toN, cmul_zero]⟩
  case round =>
    clear HK HBW
    obtain ⟨j, hj, rfl, hbw, ys, hk, hyl, hyb, hys⟩ := hrel
    have HBr := Lib.hid hbw
    have HK := Lib.hid hk
    have HY := Lib.hid hys
    have HYL := Lib.hid hyl
    have HYB := Lib.hid hyb
    clear hbw hk hys hyl hyb
    by_cases hlt : j < n
    · obtain rfl : a = some ⟨b1, o1, none⟩ := by rcases HA.out with h | h; exact h; exact absurd h (by omega)
      clear HA
      have h1 := (HBr.out.cell (p := ⟨b1, o1 + j, none⟩) (HC.out j (by omega)).1).trans (HC.out j (by omega)).2
      have hz := HB.out.nth j
      have hand := and_one hz.1 hz.2
      have hts := Lib.hid (toN_take_succ (zs := zs) (i := j) (by rw [HL.out]; exact hlt))
      rcases mod2 (nth zs j) with hev | hev
      · rw [hev] at hand
        have HE := Lib.hid hev
        clear hev
        go_wp2
        go_roundw
        case rel => exact ⟨j + 1, by omega, by go_num, HBr.out, ys, HK.out, HYL.out, HYB.out, by rw [HY.out, hts.out, HE.out]; simp⟩
        case measure => simp [intOf]; omega
      · rw [hev] at hand
        have HE := Lib.hid hev
        clear hev
        go_wp2
        go_loopw [28] (fun i wr => ∃ k : Nat, k ≤ m ∧ i = .int .i64 k ∧ Below w.heap.size w wr ∧ ∃ ys, Blk wr w.heap.size ys ∧ ys.length = n + m ∧ Byt ys ∧ toN ys = cmul (toN (zs.take j)) (toN bs) ^^^ (toN (bs.take k) <<< j)) (fun i _ => m - (intOf i).toNat)
        case atStart => exact ⟨0, Nat.zero_le _, rfl, HBr.out, ys, HK.out, HYL.out, HYB.out, by rw [HY.out]; simp [toN]⟩
        case round =>
          clear HK HBr HY HYL HYB h1
          obtain ⟨k, hk0, rfl, hbw, ys, hk, hyl, hyb, hys⟩ := hrel
          have HBr := Lib.hid hbw
          have HK := Lib.hid hk
          have HY := Lib.hid hys
          have HYL := Lib.hid hyl
          have HYB := Lib.hid hyb
          clear hbw hk hys hyl hyb
          by_cases hkm : k < m
          · obtain rfl : b = some ⟨b2, o2, none⟩ := by rcases HAB.out with h | h; exact h; exact absurd h (by omega)
            clear HAB
            have h1 := (HBr.out.cell (p := ⟨b2, o2 + k, none⟩) (HD.out k (by omega)).1).trans (HD.out k (by omega)).2
            have h2 := HK.out.cell (i := j + k) (by rw [HYL.out]; omega)
            have h3 := HK.out.frozen (j + k)
            have hz2 := HB2.out.nth k
            have hy2 := HYB.out.nth (j + k)
            obtain ⟨v, hv, hv0, hv1, hv2⟩ := xor_byte hy2.1 hy2.2 hz2.1 hz2.2
            have hts2 := Lib.hid (toN_take_succ (zs := bs) (i := k) (by rw [HM.out]; exact hkm))
            have hst := Lib.hid (toN_set_xor (zs := ys) (i := j + k) (v := v) (b := decide (nth bs k % 2 = 1)) (by rw [HYL.out]; omega) (bool_step hv2))
            clear hv2
            go_wp2
            go_roundw
            case rel =>
              refine ⟨k + 1, by omega, by go_num, HBr.out.setCell (p := ⟨w.heap.size, j + k, none⟩) (Nat.le_refl _) _, _, HK.out.set (j + k) v, by simp [HYL.out], byt_set HYB.out hv0 hv1, ?_⟩
              rw [hst.out, HY.out, hts2.out, Nat.xor_assoc]
              congr 1
              apply Nat.eq_of_testBit_eq
              intro t
              simp only [Nat.testBit_xor, Nat.testBit_shiftLeft]
              by_cases h4 : j ≤ t <;> simp [h4]
              · by_cases h5 : j + k ≤ t
                · simp [show k ≤ t - j by omega, h5, Nat.sub_sub]
                · simp [show ¬ k ≤ t - j by omega, h5]
              · intro h; omega
            case measure => simp [intOf]; omega
          · obtain rfl : k = m := by omega
            go_wp2
            go_roundw
            case rel =>
              refine ⟨j + 1, by omega, by go_num, HBr.out, ys, HK.out, HYL.out, HYB.out, ?_⟩
              rw [HY.out, hts.out, HE.out, cmul_xor_left, cmul_shl_left]
              have : (decide ((1 : Int) = 1)).toNat = 1 := rfl
              rw [this, cmul_one_left, List.take_of_length_le (l := bs) (by rw [HM.out]; exact Nat.le_refl _)]
            case measure => simp [intOf]; omega
    · obtain rfl : j = n := by omega
      have he : toN ys = cmul (toN zs) (toN bs) := by rw [HY.out, List.take_of_length_le (by rw [HL.out]; exact Nat.le_refl _)]
      have HE := Lib.hid he
      have hsr := HBr.out.size
      clear he HY
      go_wp2_with fail
      refine (reduce_any _ _ _ ys _ (HK.out.ints HYL.out (by omega)) HYB.out (by omega)).mono ?_
      rintro e w3 ⟨g, rfl, hg, hk3, hb3⟩
      rw [HE.out] at hk3 ⊢
      have HK3 := Lib.hid hk3
      have HB3 := Lib.hid (HBr.out.trans (hb3.mono hsr))
      clear hk3 hb3
      go_wp2
      rw [Exit.noGoto_ret]
      go_ret
      exact ⟨_, rfl, by omega, HK3.out, HB3.out⟩

end Go.Proofs.Ytadlmefdkpbflaa

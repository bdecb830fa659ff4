/- poly.Mod. -/
import Derived.Test.YtadlmefdkpbflaaPoly4
namespace Go.Proofs.Ytadlmefdkpbflaa
open Go.RowKit

/-- all are 0 or 1 -/
def Bits (zs : List Int) : Prop := ∀ z ∈ zs, z = 0 ∨ z = 1
theorem Bits.byt {zs : List Int} (h : Bits zs) : Byt zs := fun z hz => by rcases h z hz with h | h <;> omega
theorem Bits.nth {zs : List Int} (h : Bits zs) (k : Nat) : nth zs k = 0 ∨ nth zs k = 1 := by
  by_cases hk : k < zs.length
  · exact h _ (nth_mem hk)
  · exact .inl (nth_ge (by omega))
theorem bitsL_bits (x n : Nat) : Bits (bitsL x n) := fun z hz => by
  obtain ⟨i, _, rfl⟩ := List.mem_map.1 hz
  split <;> simp
theorem bits_set {zs : List Int} (h : Bits zs) {i : Nat} {v : Int} (h0 : v = 0 ∨ v = 1) : Bits (zs.set i v) := fun z hz => by
  rcases List.mem_or_eq_of_mem_set hz with h2 | h2
  · exact h z h2
  · subst h2; exact h0
theorem xor_bit {a b : Int} (h0 : a = 0 ∨ a = 1) (h1 : b = 0 ∨ b = 1) : ∃ v, bits .xor .u8 a b = v ∧ (v = 0 ∨ v = 1) ∧ v % 2 = (a + b) % 2 := by
  obtain ⟨v, hv, h2, h3, h4⟩ := xor_byte (a := a) (b := b) (by omega) (by omega) (by omega) (by omega)
  refine ⟨v, hv, ?_, h4⟩
  rcases h0 with rfl | rfl <;> rcases h1 with rfl | rfl
  · have : bits .xor .u8 0 0 = 0 := by decide
    omega
  · have : bits .xor .u8 0 1 = 1 := by decide
    omega
  · have : bits .xor .u8 1 0 = 1 := by decide
    omega
  · have : bits .xor .u8 1 1 = 0 := by decide
    omega
theorem toN_take_sz {zs : List Int} {k : Nat} (h : sz (toN zs) ≤ k) : toN (zs.take k) = toN zs := by
  apply Nat.eq_of_testBit_eq
  intro i
  rw [testBit_toN, testBit_toN]
  by_cases hi : i < k
  · by_cases hl : i < zs.length
    · congr 3
      rw [nth_lt (by simp; omega), nth_lt hl]; simp
    · rw [nth_ge (by simp; omega), nth_ge (by omega)]
  · rw [nth_ge (by simp; omega)]
    have := testBit_ge_sz (x := toN zs) (i := i) (by omega)
    rw [testBit_toN] at this
    rw [this]; rfl
/-- the leading coefficient goes -/
theorem clear_top {x g p n : Nat} (hx : x < 2 ^ (p + n + 1)) (tx : x.testBit (p + n) = true) (hg : sz g = n + 1) : x ^^^ (g <<< p) < 2 ^ (p + n) := by
  have hg0 : g ≠ 0 := fun h => by rw [h] at hg; simp [sz] at hg
  have tg := top_sz hg0
  rw [hg, Nat.add_sub_cancel] at tg
  apply Nat.lt_pow_two_of_testBit
  intro i hi
  rw [Nat.testBit_xor, Nat.testBit_shiftLeft]
  rcases Nat.lt_or_ge (p + n) i with h | h
  · rw [Nat.testBit_lt_two_pow (Nat.lt_of_lt_of_le hx (Nat.pow_le_pow_right (by omega) (by omega))), testBit_ge_sz (x := g) (by omega)]
    simp
  · obtain rfl : i = p + n := by omega
    rw [tx, show p + n - p = n by omega, tg]
    simp

theorem mod_no (a b : Option Addr) (n c m d : Nat) (gs : List Int) (w : World) (hy : Ints .u8 w b m d gs) (hB2 : Byt gs) (h0 : toN gs = 0) :
    Calls Try.prog 9 #[.slice a n c, .slice b m d] w fun e w' => e = .returned (.tuple #[.slice none 0 0, .bool false]) ∧ Below w.heap.size w w' := by
  have HY := Lib.hid hy
  have HB := Lib.hid hB2
  have HZ := Lib.hid h0
  clear hy hB2 h0
  go_enter Try.func9, Try.ntmps9
  go_wp2_with (go_at_call 18; refine (degree_any _ _ _ _ _ HY.out HB.out).mono ?_; rintro e w1 ⟨rfl, hb1⟩; rw [HZ.out, show ((sz 0 : Nat) : Int) - 1 = -1 from rfl]; have HB1 := Lib.hid hb1; clear hb1)
  go_ret2
  exact ⟨rfl, HB1.out⟩

set_option maxHeartbeats 8000000 in
theorem mod_yes (a b : Option Addr) (n c m d : Nat) (zs gs : List Int) (w : World) (hx : Ints .u8 w a n c zs) (hB : Byt zs) (hy : Ints .u8 w b m d gs) (hB2 : Byt gs) (hn : n ≤ 1073741824) (hm : m ≤ 1073741824) (h0 : toN gs ≠ 0) :
    Calls Try.prog 9 #[.slice a n c, .slice b m d] w fun e w' => ∃ g r, e = .returned (.tuple #[.slice (some ⟨g, 0, none⟩) (sz r) (sz r), .bool true]) ∧ IsMod (toN zs) (toN gs) r ∧ w.heap.size ≤ g ∧ Blk w' g (ofN r) ∧ Below w.heap.size w w' := by
  have hdd := hy.cap
  have HB := Lib.hid hB
  have HX := Lib.hid hx
  have HY := Lib.hid hy
  have HB2 := Lib.hid hB2
  obtain ⟨b2, o2, hb, hcy⟩ := hy.loc
  have HD := Lib.hid hcy
  have HAB := Lib.hid hb
  have HM := Lib.hid hy.len
  have hszg := sz_toN_le gs
  rw [hy.len] at hszg
  have hsza := sz_toN_le zs
  rw [hx.len] at hsza
  clear hx hB hy hB2 hcy hb
  obtain ⟨D, hD⟩ : ∃ D, sz (toN gs) = D + 1 := ⟨sz (toN gs) - 1, by have := (not_congr (sz_zero_iff (x := toN gs))).2 h0; omega⟩
  rw [hD] at hszg
  obtain ⟨G, hG⟩ : ∃ G, G = toN gs := ⟨_, rfl⟩
  rw [← hG] at hD h0 ⊢
  obtain ⟨A, hA⟩ : ∃ A, A = toN zs := ⟨_, rfl⟩
  rw [← hA] at hsza ⊢
  have HG := Lib.hid hG
  have HA := Lib.hid hA
  have HDD := Lib.hid hD
  have hd1 : ((sz (toN gs) : Nat) : Int) - 1 = (D : Int) := by rw [← hG, hD]; omega
  have HD1 := Lib.hid hd1
  have htk := Lib.hid (show toN (gs.take (D + 1)) = G by rw [hG]; exact toN_take_sz (by rw [← hG, hD]; exact Nat.le_refl _))
  clear hG hA hD hd1 h0
  go_enter Try.func9, Try.ntmps9
  go_wp2_with fail
  refine (degree_any _ _ _ _ _ HY.out HB2.out).mono ?_
  rintro e w1 ⟨rfl, hb1⟩
  rw [HD1.out]
  have HB1 := Lib.hid hb1
  have hs1 := hb1.size
  clear hb1
  go_wp2_with fail
  refine (reduce_any _ _ _ zs _ (HX.out.below HB1.out) HB.out (by omega)).mono ?_
  rintro e w2 ⟨g2, rfl, hg2, hk2, hb2⟩
  rw [← HA.out] at hk2 ⊢
  obtain ⟨N, hN⟩ : ∃ N, N = sz A := ⟨_, rfl⟩
  rw [← hN] at hsza ⊢
  have HN := Lib.hid hN
  have HK2 := Lib.hid hk2
  have HB2w := Lib.hid (HB1.out.trans (hb2.mono hs1))
  have hgw : w.heap.size ≤ g2 := by omega
  clear hk2 hb2 hN
  go_wp2
  go_loopw [8] (fun i wr => ∃ s : Nat, s ≤ N ∧ i = .int .i64 ((s : Int) - 1) ∧ Below w.heap.size w wr ∧ ∃ ys q, Blk wr g2 ys ∧ ys.length = N ∧ Bits ys ∧ toN ys = A ^^^ cmul q G ∧ toN ys < 2 ^ s) (fun i _ => (intOf i + 1).toNat)
  case atStart => exact ⟨N, Nat.le_refl _, rfl, HB2w.out, _, 0, HK2.out, by rw [ofN_length, HN.out], bitsL_bits _ _, by rw [toN_ofN, cmul_zero]; simp, by rw [toN_ofN, HN.out]; exact lt_sz A⟩
  case round =>
    clear HK2 HB2w
    obtain ⟨s, hs, rfl, hbw, ys, q, hk, hyl, hyb, hys, hyt⟩ := hrel
    have HBr := Lib.hid hbw
    have HK := Lib.hid hk
    have HYS := Lib.hid hys
    have HYL := Lib.hid hyl
    have HYB := Lib.hid hyb
    have HYT := Lib.hid hyt
    clear hbw hk hys hyl hyb hyt
    by_cases hlt : D + 1 ≤ s
    · obtain ⟨p, hp⟩ : ∃ p, s = p + D + 1 := ⟨s - D - 1, by omega⟩
      subst hp
      obtain ⟨I, hI⟩ : ∃ I, I = p + D := ⟨_, rfl⟩
      have hI1 : ((p + D + 1 : Nat) : Int) - 1 = (I : Int) := by omega
      rw [hI1]
      have hIN : I < N := by omega
      have hID : D ≤ I := by omega
      have h2 := HK.out.cell (i := I) (by rw [HYL.out]; omega)
      have hbit := HYB.out.nth I
      have HI := Lib.hid hI
      have HI1 := Lib.hid hI1
      clear hI hI1 hs hlt
      by_cases hz : nth ys I = 0
      · rw [hz] at h2
        have HZ := Lib.hid hz
        clear hbit hz
        go_wp2
        go_roundw
        case rel =>
          refine ⟨I, by omega, by go_num, HBr.out, ys, q, HK.out, HYL.out, HYB.out, HYS.out, ?_⟩
          apply Nat.lt_pow_two_of_testBit
          intro i hi
          rcases Nat.lt_or_ge I i with h | h
          · exact Nat.testBit_lt_two_pow (Nat.lt_of_lt_of_le HYT.out (Nat.pow_le_pow_right (by omega) (by rw [← HI.out]; omega)))
          · obtain rfl : i = I := by omega
            rw [testBit_toN, HZ.out]; rfl
        case measure => simp [intOf]
      · have hone : nth ys I = 1 := by rcases hbit with h | h; exact absurd h hz; exact h
        rw [hone] at h2
        have HZ := Lib.hid hone
        clear hbit hz hone
        go_wp2
        go_loopw [31] (fun i wr => ∃ k : Nat, k ≤ D + 1 ∧ i = .int .i64 k ∧ Below w.heap.size w wr ∧ ∃ ys', Blk wr g2 ys' ∧ ys'.length = N ∧ Bits ys' ∧ toN ys' = toN ys ^^^ (toN (gs.take k) <<< p)) (fun i _ => D + 1 - (intOf i).toNat)
        case atStart => exact ⟨0, Nat.zero_le _, rfl, HBr.out, ys, HK.out, HYL.out, HYB.out, by simp [toN]⟩
        case round =>
          clear HK HBr HYL HYB h2
          obtain ⟨k, hk0, rfl, hbw, ys', hk, hyl, hyb, hys⟩ := hrel
          have HBr := Lib.hid hbw
          have HK := Lib.hid hk
          have HY' := Lib.hid hys
          have HYL := Lib.hid hyl
          have HYB := Lib.hid hyb
          clear hbw hk hys hyl hyb
          by_cases hkm : k < D + 1
          · obtain rfl : b = some ⟨b2, o2, none⟩ := by rcases HAB.out with h | h; exact h; exact absurd h (by omega)
            clear HAB
            have hkb2 : b2 < w.heap.size := (HD.out k (by omega)).1
            have h1 := (HBr.out.cell (p := ⟨b2, o2 + k, none⟩) (HD.out k (by omega)).1).trans (HD.out k (by omega)).2
            have h2 := HK.out.cell (i := p + k) (by rw [HYL.out]; have := HI.out; omega)
            have h3 := HK.out.frozen (p + k)
            have hz2 := HB2.out.nth k
            have hand := and_one hz2.1 hz2.2
            have hy2 := HYB.out.nth (p + k)
            have hm2 := mod2 (nth gs k)
            obtain ⟨u, hu⟩ : ∃ u, u = nth gs k % 2 := ⟨_, rfl⟩
            rw [← hu] at hand hm2
            obtain ⟨v, hv, hv0, hv2⟩ := xor_bit hy2 hm2
            have hts2 := Lib.hid (toN_take_succ (zs := gs) (i := k) (by rw [HM.out]; omega))
            have hst := Lib.hid (toN_set_xor (zs := ys') (i := p + k) (v := v) (b := decide (nth gs k % 2 = 1)) (by rw [HYL.out]; have := HI.out; omega) (bool_step (by rw [hv2, hu]; omega)))
            have e1 : IntKind.i64.wrap ((I : Int) - (D : Int)) = (p : Int) := by rw [IntKind.wrap_i64]; have := HI.out; omega
            have e2 : IntKind.i64.wrap ((p : Int) + (k : Int)) = (p : Int) + (k : Int) := by rw [IntKind.wrap_i64]; have := HI.out; omega
            have e3 : ((p : Int) + (k : Int)).toNat = p + k := by omega
            have e4 : (0 : Int) ≤ (p : Int) + (k : Int) := by omega
            have e5 : (p : Int) + (k : Int) < (N : Int) := by have := HI.out; omega
            have e6 : (k : Int) < (m : Int) := by omega
            have HV0 := Lib.hid hv0
            clear hv2 hy2 hm2 hu hv0 hz2
            go_wp2
            go_region
            go_wp2
            go_roundw
            case rel =>
              refine ⟨k + 1, by omega, by go_num, ?_, _, ?_, by simp [HYL.out], bits_set HYB.out (i := p + k) HV0.out, ?_⟩
              · exact (HBr.out.setCell (p := ⟨g2, p + k, none⟩) hgw _).drew
              · exact HK.out.set (p + k) v
              rw [hst.out, HY'.out, hts2.out, Nat.xor_assoc]
              congr 1
              apply Nat.eq_of_testBit_eq
              intro t
              simp only [Nat.testBit_xor, Nat.testBit_shiftLeft]
              by_cases h4 : p ≤ t <;> simp [h4]
              · by_cases h5 : p + k ≤ t
                · simp [show k ≤ t - p by omega, h5, Nat.sub_sub]
                · simp [show ¬ k ≤ t - p by omega, h5]
              · intro h; omega
            case measure => simp [intOf]; omega
          · obtain rfl : k = D + 1 := by omega
            have hfin : toN ys' = toN ys ^^^ (G <<< p) := by rw [HY'.out, htk.out]
            have HF := Lib.hid hfin
            clear hfin HY'
            go_wp2
            go_roundw
            case rel =>
              refine ⟨I, by omega, by go_num, HBr.out, ys', q ^^^ (1 <<< p), HK.out, HYL.out, HYB.out, ?_, ?_⟩
              · rw [HF.out, HYS.out, cmul_xor_left, cmul_shl_left, cmul_one_left, Nat.xor_assoc]
              · rw [HF.out, HI.out]
                exact clear_top HYT.out (by rw [testBit_toN, ← HI.out, HZ.out]; rfl) HDD.out
            case measure => simp [intOf]
    · obtain ⟨r, hr⟩ : ∃ r, r = toN ys := ⟨_, rfl⟩
      have hmod : IsMod A G r := by
        refine ⟨?_, q, ?_⟩
        · have := sz_le HYT.out
          rw [hr, HDD.out]; omega
        · rw [hr, HYS.out]
          apply Nat.eq_of_testBit_eq
          intro i
          simp only [Nat.testBit_xor]
          cases A.testBit i <;> cases (cmul q G).testBit i <;> rfl
      have HR := Lib.hid hr
      have HMO := Lib.hid hmod
      have hsr := HBr.out.size
      clear hr hmod
      go_wp2_with fail
      refine (reduce_any _ _ _ ys _ (HK.out.ints HYL.out (by omega)) HYB.out.byt (by omega)).mono ?_
      rintro e w3 ⟨g, rfl, hg, hk3, hb3⟩
      rw [← HR.out] at hk3 ⊢
      have HK3 := Lib.hid hk3
      have HB3 := Lib.hid (HBr.out.trans (hb3.mono hsr))
      clear hk3 hb3
      go_wp2
      go_ret2
      exact ⟨g, r, rfl, HMO.out, by omega, HK3.out, HB3.out⟩

end Go.Proofs.Ytadlmefdkpbflaa

/- The reference: Mod. -/
import Derived.Test.YtadlmefdkpbflaaPoly9
namespace Go.Proofs.Ytadlmefdkpbflaa
open Go.RowKit

theorem refmod_no (a b : Option Addr) (n c m d : Nat) (gs : List Int) (w : World) (hy : Ints .u8 w b m d gs) (hB2 : Byt gs) (hm : m ≤ 1073741824) (h0 : toN gs = 0) :
    Calls Try.prog 10 #[.slice a n c, .slice b m d] w fun e w' => e = .returned (.tuple #[.slice none 0 0, .bool false]) ∧ Below w.heap.size w w' := by
  have HY := Lib.hid hy
  have HB := Lib.hid hB2
  have HZ := Lib.hid h0
  clear hy hB2 h0
  go_enter Try.func10, Try.ntmps10
  go_wp2_with (go_at_call 17; refine (refreduce_any _ _ _ _ _ HY.out HB.out (by omega)).mono ?_; rintro e w1 ⟨a1, c1, rfl, hI, hb1⟩; rw [HZ.out, show sz 0 = 0 from rfl] at hI ⊢; have HB1 := Lib.hid hb1; clear hb1 hI)
  go_ret2
  exact ⟨rfl, HB1.out⟩

/-- the register moves by one place -/
theorem toN_shift1 {ys rs : List Int} {D : Nat} {z : Int} (hl : rs.length = D + 1) (h0 : nth rs 0 = z % 2) (hs : ∀ t, t < D → nth rs (t + 1) = nth ys t) (hlt : toN ys < 2 ^ D) : toN rs = (z % 2).toNat ^^^ (2 * toN ys) := by
  apply Nat.eq_of_testBit_eq
  intro i
  rw [Nat.testBit_xor, testBit_toN]
  cases i with
  | zero =>
    rw [h0]
    have h1 : (2 * toN ys).testBit 0 = false := by simp [Nat.testBit_zero]
    rw [h1]
    rcases mod2 z with h | h <;> rw [h] <;> rfl
  | succ i =>
    rw [testBit_two]
    have h1 : ((z % 2).toNat).testBit (i + 1) = false := Nat.testBit_lt_two_pow (by
      have h2 : 2 ^ 1 ≤ 2 ^ (i + 1) := Nat.pow_le_pow_right (by omega) (by omega)
      have := mod2 z; omega)
    rw [h1, Bool.false_xor]
    by_cases hi : i < D
    · rw [hs i hi, testBit_toN]
    · rw [nth_ge (by omega), Nat.testBit_lt_two_pow (Nat.lt_of_lt_of_le hlt (Nat.pow_le_pow_right (by omega) (by omega)))]
      rfl
theorem toN_drop {zs : List Int} {i : Nat} (h : i < zs.length) : toN (zs.drop i) = (nth zs i % 2).toNat ^^^ (2 * toN (zs.drop (i + 1))) := by
  rw [drop_nth h]
  have e := split2 (toN (nth zs i :: zs.drop (i + 1)))
  have hd : (toN (nth zs i :: zs.drop (i + 1))) / 2 = toN (zs.drop (i + 1)) := by simp only [toN]; have := mod2 (nth zs i); omega
  have hm : (toN (nth zs i :: zs.drop (i + 1))) % 2 = (nth zs i % 2).toNat := by simp only [toN]; have := mod2 (nth zs i); omega
  rw [hd, hm] at e
  exact e
theorem bit_add (p q : Int) (hp : p = 0 ∨ p = 1) (hq : q = 0 ∨ q = 1) : 0 ≤ p + q ∧ p + q < 256 ∧ ((p + q) % 2 = 0 ∨ (p + q) % 2 = 1) := by omega

theorem bitsL_zero (n : Nat) : Bits (List.replicate n 0) := fun _ hz => .inl (List.eq_of_mem_replicate hz)
set_option maxHeartbeats 8000000 in
theorem refmod_yes (a b : Option Addr) (n c m d : Nat) (zs gs : List Int) (w : World) (hx : Ints .u8 w a n c zs) (hB : Byt zs) (hy : Ints .u8 w b m d gs) (hB2 : Byt gs) (hn : n ≤ 1073741824) (hm : m ≤ 1073741824) (h0 : toN gs ≠ 0) :
    Calls Try.prog 10 #[.slice a n c, .slice b m d] w fun e w' => ∃ a' c' r, e = .returned (.tuple #[.slice a' (sz r) c', .bool true]) ∧ IsMod (toN zs) (toN gs) r ∧ Ints .u8 w' a' (sz r) c' (ofN r) ∧ Below w.heap.size w w' := by
  obtain ⟨i0, hi, hz0, hz1, hz2⟩ := info_parts info_u8
  have hcc := hx.cap
  have HB := Lib.hid hB
  have HX := Lib.hid hx
  have HY := Lib.hid hy
  have HB2 := Lib.hid hB2
  have HL := Lib.hid hx.len
  obtain ⟨b1, o1, ha, hcx⟩ := hx.loc
  have HC := Lib.hid hcx
  have HA := Lib.hid ha
  have hszg := sz_toN_le gs
  rw [hy.len] at hszg
  clear hx hB hy hB2 hcx ha
  obtain ⟨D, hD⟩ : ∃ D, sz (toN gs) = D + 1 := ⟨sz (toN gs) - 1, by have := (not_congr (sz_zero_iff (x := toN gs))).2 h0; omega⟩
  rw [hD] at hszg
  obtain ⟨G, hG⟩ : ∃ G, G = toN gs := ⟨_, rfl⟩
  rw [← hG] at hD h0 ⊢
  have HG := Lib.hid hG
  have HDD := Lib.hid hD
  clear hG hD h0
  go_enter Try.func10, Try.ntmps10
  go_wp2_with (first | (go_at_call 17; refine (refreduce_any _ _ _ _ _ HY.out HB2.out (by omega)).mono ?_; rintro e w1 ⟨a1, c1, rfl, hI, hb1⟩; rw [← HG.out, HDD.out] at hI ⊢; obtain ⟨b2, o2, ha1, hc1⟩ := hI.loc; have hcap1 := hI.cap; obtain rfl : a1 = some ⟨b2, o2, none⟩ := (by rcases ha1 with h | h; exact h; exact absurd h (by omega)); have HD := Lib.hid hc1; have hb2 := (hc1 0 (by omega)).1; have HB1 := Lib.hid hb1; have hs1 := hb1.size; clear hb1 hI hc1 ha1) | (at_make; refine wpList_make_full _ rfl _ _ 22 rfl w1.heap.size 5 i0 (.int .u8 0) 1 Try.underlying22 hi hz0 hz1 .i64 .i64 _ _ (D + 1) rfl rfl rfl rfl (by rw [hz2]; omega) (by unfold maxLen; omega) (Nat.le_refl _) ?_; intro w2 hown hgrow; rw [zeros_cells] at hown; have HBW := Lib.hid (below_grown hgrow rfl); have HK := Lib.hid (blk_of_own hown); have HW2 := Lib.hid (HB1.out.trans (HBW.out.mono hs1)); clear hown hgrow))
  go_loopw [9] (fun i wr => ∃ s : Nat, s ≤ n ∧ i = .int .i64 ((s : Int) - 1) ∧ Below w1.heap.size w1 wr ∧ ∃ ys q, Blk wr w1.heap.size ys ∧ ys.length = D + 1 ∧ Bits ys ∧ toN (zs.drop s) = cmul q G ^^^ toN ys ∧ toN ys < 2 ^ D) (fun i _ => (intOf i + 1).toNat)
  case atStart => exact ⟨n, Nat.le_refl _, rfl, HBW.out, _, 0, HK.out, by simp, bitsL_zero _, by rw [← HL.out, List.drop_length, toN_zeros, cmul_zero]; rfl, by rw [toN_zeros]; exact Nat.two_pow_pos _⟩
  case round =>
    clear HK HBW HW2
    obtain ⟨s, hs, rfl, hbw, ys, q, hk, hyl, hyb, hys, hyt⟩ := hrel
    have HBr := Lib.hid hbw
    have HK := Lib.hid hk
    have HYS := Lib.hid hys
    have HYL := Lib.hid hyl
    have HYB := Lib.hid hyb
    have HYT := Lib.hid hyt
    clear hbw hk hys hyl hyb hyt
    cases s with
    | succ s =>
      obtain rfl : a = some ⟨b1, o1, none⟩ := by rcases HA.out with h | h; exact h; exact absurd h (by omega)
      have e0 : ((s + 1 : Nat) : Int) - 1 = (s : Int) := by omega
      rw [e0]
      clear e0
      have hk1 : b1 < w.heap.size := (HC.out s (by omega)).1
      go_wp2
      go_loopw [10] (fun i wr => ∃ k : Nat, k ≤ D ∧ i = .int .i64 k ∧ Below w1.heap.size w1 wr ∧ ∃ rs, Blk wr w1.heap.size rs ∧ rs.length = D + 1 ∧ Bits rs ∧ ∀ t, t ≤ D → nth rs t = if k < t then nth ys (t - 1) else nth ys t) (fun i _ => (intOf i).toNat)
      case atStart => exact ⟨D, Nat.le_refl _, rfl, HBr.out, ys, HK.out, HYL.out, HYB.out, fun t ht => by rw [if_neg (by omega)]⟩
      case round =>
        clear HK HBr
        obtain ⟨k, hkd, rfl, hbw, rs, hk, hrl, hrb, hrs⟩ := hrel
        have HBr := Lib.hid hbw
        have HK := Lib.hid hk
        have HRL := Lib.hid hrl
        have HRB := Lib.hid hrb
        have HRS := Lib.hid hrs
        clear hbw hk hrl hrb hrs
        cases k with
        | succ k =>
          have h1 := HK.out.cell (i := k) (by rw [HRL.out]; omega)
          have h2 := HK.out.cell (i := k + 1) (by rw [HRL.out]; omega)
          have h3 := HK.out.frozen (k + 1)
          go_wp2
          go_roundw
          case rel =>
            refine ⟨k, by omega, by go_num, HBr.out.setCell (p := ⟨w1.heap.size, k + 1, none⟩) (Nat.le_refl _) _, _, HK.out.set (k + 1) _, by simp [HRL.out], bits_set HRB.out (HRB.out.nth k), fun t ht => ?_⟩
            rw [nth_set (by rw [HRL.out]; omega)]
            by_cases e : t = k + 1
            · rw [if_pos e, if_pos (by omega), HRS.out k (by omega), if_neg (by omega), e, Nat.add_sub_cancel]
            · rw [if_neg e, HRS.out t ht]
              by_cases e2 : k + 1 < t
              · rw [if_pos e2, if_pos (by omega)]
              · rw [if_neg e2, if_neg (by omega)]
          case measure => simp [intOf]
        | zero =>
          have h1 := (((HB1.out.trans (HBr.out.mono hs1)).cell (p := ⟨b1, o1 + s, none⟩) hk1)).trans (HC.out s (by omega)).2
          have h2 := HK.out.cell (i := 0) (by rw [HRL.out]; omega)
          have h3 := HK.out.frozen 0
          have hz := HB.out.nth s
          obtain ⟨u, hu⟩ : ∃ u, u = nth zs s % 2 := ⟨_, rfl⟩
          have hu2 : u = 0 ∨ u = 1 := by rw [hu]; exact mod2 _
          have HU2 := Lib.hid hu2
          have hsh := toN_shift1 (ys := ys) (rs := rs.set 0 u) (D := D) (z := nth zs s) (by simp [HRL.out]) (by rw [nth_set (by rw [HRL.out]; omega), if_pos rfl, hu]) (fun t ht => by
            rw [nth_set (by rw [HRL.out]; omega), if_neg (by omega), HRS.out (t + 1) (by omega), if_pos (by omega), Nat.add_sub_cancel]) HYT.out
          have hdr := toN_drop (zs := zs) (i := s) (by rw [HL.out]; omega)
          have hnew : toN (zs.drop s) = cmul (2 * q) G ^^^ toN (rs.set 0 u) := by
            rw [hdr, HYS.out, hsh, two_mul_xor, cmul_two_left, ← Nat.xor_assoc, Nat.xor_comm ((nth zs s % 2).toNat), Nat.xor_assoc]
          have HN := Lib.hid hnew
          have hwid := toN_lt (rs.set 0 u)
          rw [List.length_set, HRL.out] at hwid
          have HWD := Lib.hid hwid
          have hkb := Lib.hid (HK.out.set 0 u)
          have hbits := Lib.hid (bits_set HRB.out (i := 0) hu2)
          have hlen := Lib.hid (show (rs.set 0 u).length = D + 1 by simp [HRL.out])
          have HB3 := Lib.hid (HBr.out.setCell (p := ⟨w1.heap.size, 0, none⟩) (Nat.le_refl _) (.int .u8 u))
          have h4 := hkb.out.cell (i := D) (by rw [hlen.out]; omega)
          have hb4 := hbits.out.nth D
          obtain ⟨ts, hts⟩ : ∃ ts, ts = rs.set 0 u := ⟨_, rfl⟩
          rw [← hts] at HN HWD hkb hbits hlen h4 hb4
          clear hsh hdr hnew hwid hts HYS HYL HYB HYT HRS HRB HRL
          have HU := Lib.hid hu
          clear hu2
          rw [hu] at h4
          have e7 : (D : Int) < (D : Int) + 1 := by omega
          rcases hb4 with hb4 | hb4
          · rw [hb4] at h4
            have HF := Lib.hid hb4
            clear hb4 hu
            go_wp2
            rw [← HU.out]
            go_roundw
            case rel =>
              refine ⟨s, by omega, rfl, HB3.out, ts, 2 * q, hkb.out, hlen.out, hbits.out, HN.out, ?_⟩
              apply Nat.lt_pow_two_of_testBit
              intro t ht
              rcases Nat.lt_or_ge D t with h | h
              · exact Nat.testBit_lt_two_pow (Nat.lt_of_lt_of_le HWD.out (Nat.pow_le_pow_right (by omega) h))
              · obtain rfl : t = D := by omega
                rw [testBit_toN, HF.out]; rfl
            case measure => simp [intOf]
          · rw [hb4] at h4
            have HF := Lib.hid hb4
            clear hb4 hu
            go_wp2
            rw [← HU.out]
            clear h1 h2 h3 h4 hz
            obtain ⟨w9, hw9⟩ : ∃ w9, wr.setCell ⟨w1.heap.size, 0, none⟩ (.int .u8 u) = w9 := ⟨_, rfl⟩
            rw [hw9] at hkb HB3 ⊢
            clear hw9 HBr HK
            go_loopw [11] (fun i wr => ∃ k : Nat, k ≤ D + 1 ∧ i = .int .i64 k ∧ Below w1.heap.size w1 wr ∧ ∃ rs, Blk wr w1.heap.size rs ∧ rs.length = D + 1 ∧ Bits rs ∧ toN rs = toN ts ^^^ toN ((ofN G).take k)) (fun i _ => D + 1 - (intOf i).toNat)
            case atStart => exact ⟨0, Nat.zero_le _, rfl, HB3.out, ts, hkb.out, hlen.out, hbits.out, by simp [toN]⟩
            case round =>
              clear HB3 hkb hlen hbits
              obtain ⟨k, hkd, rfl, hbw, rs, hk, hrl, hrb, hrs⟩ := hrel
              have HBr := Lib.hid hbw
              have HK := Lib.hid hk
              have HRL := Lib.hid hrl
              have HRB := Lib.hid hrb
              have HRS := Lib.hid hrs
              clear hbw hk hrl hrb hrs
              by_cases hlt : k < D + 1
              · have h1 := (HBr.out.cell (p := ⟨b2, o2 + k, none⟩) (HD.out k hlt).1).trans (HD.out k hlt).2
                have h2 := HK.out.cell (i := k) (by rw [HRL.out]; omega)
                have h3 := HK.out.frozen k
                have hp := HRB.out.nth k
                have hq := (bitsL_bits G (sz G)).nth k
                rw [show bitsL G (sz G) = ofN G from rfl] at hq
                have hsum := bit_add _ _ hp hq
                obtain ⟨v, hv⟩ : ∃ v, v = (nth rs k + nth (ofN G) k) % 2 := ⟨_, rfl⟩
                have hts2 := Lib.hid (toN_take_succ (zs := ofN G) (i := k) (by rw [ofN_length, HDD.out]; omega))
                have hst := Lib.hid (toN_set_xor (zs := rs) (i := k) (v := v) (b := decide (nth (ofN G) k % 2 = 1)) (by rw [HRL.out]; omega) (bool_step (by rw [hv]; omega)))
                have hv0 := Lib.hid (show v = 0 ∨ v = 1 by rw [hv]; exact mod2 _)
                have HV := Lib.hid hv
                have e6 : IntKind.u8.wrap (nth rs k + nth (ofN G) k) = nth rs k + nth (ofN G) k := by rw [IntKind.wrap_u8]; omega
                have e8 : (k : Int) < (D : Int) + 1 := by omega
                have HS0 := Lib.hid hsum.1
                clear hv hp hq hsum
                go_wp2
                go_region
                go_wp2
                rw [Int.tmod_eq_emod_of_nonneg HS0.out, ← HV.out]
                go_roundw
                case rel =>
                  refine ⟨k + 1, by omega, by go_num, ?_, rs.set k v, ?_, by simp [HRL.out], bits_set HRB.out hv0.out, ?_⟩
                  · exact (HBr.out.setCell (p := ⟨w1.heap.size, k, none⟩) (Nat.le_refl _) _).drew
                  · exact HK.out.set k v
                  · rw [hst.out, HRS.out, hts2.out, Nat.xor_assoc]
                case measure => simp [intOf]; omega
              · obtain rfl : k = D + 1 := by omega
                have hfin : toN rs = toN ts ^^^ G := by rw [HRS.out, List.take_of_length_le (by rw [ofN_length, HDD.out]; exact Nat.le_refl _), toN_ofN]
                have HFI := Lib.hid hfin
                clear hfin HRS
                go_wp2
                go_roundw
                case rel =>
                  refine ⟨s, by omega, rfl, HBr.out, rs, 2 * q ^^^ 1, HK.out, HRL.out, HRB.out, ?_, ?_⟩
                  · rw [HFI.out, HN.out, cmul_xor_left, cmul_one_left, Nat.xor_comm (toN ts) G, Nat.xor_assoc, ← Nat.xor_assoc G G, Nat.xor_self, Nat.zero_xor]
                  · rw [HFI.out]
                    have := clear_top (x := toN ts) (g := G) (p := 0) (n := D) (by rw [Nat.zero_add]; exact HWD.out) (by rw [Nat.zero_add, testBit_toN, HF.out]; rfl) HDD.out
                    simpa using this
                case measure => simp [intOf]
    | zero =>
      obtain ⟨r, hr⟩ : ∃ r, r = toN ys := ⟨_, rfl⟩
      have hmod : IsMod (toN zs) G r := ⟨by have := sz_le HYT.out; rw [hr, HDD.out]; omega, q, by rw [hr, ← HYS.out]; rfl⟩
      have HR := Lib.hid hr
      have HMO := Lib.hid hmod
      have hsr := HBr.out.size
      clear hr hmod
      go_wp2_with (go_at_call 17; refine (refreduce_any _ _ _ ys _ (HK.out.ints HYL.out (by omega)) HYB.out.byt (by omega)).mono ?_; rintro e w4 ⟨a4, c4, rfl, hI4, hb4⟩; rw [← HR.out] at hI4 ⊢; have HI4 := Lib.hid hI4; have HB4 := Lib.hid (HB1.out.trans ((HBr.out.trans (hb4.mono hsr)).mono hs1)); clear hI4 hb4)
      go_ret2
      exact ⟨_, _, r, rfl, HMO.out, HI4.out, HB4.out⟩

end Go.Proofs.Ytadlmefdkpbflaa

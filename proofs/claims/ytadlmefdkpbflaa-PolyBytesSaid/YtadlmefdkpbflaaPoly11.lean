/- The reference's Shift; poly.Ones; the law's same. -/
import Derived.Test.YtadlmefdkpbflaaPoly10
import Derived.Test.YtadlmefdkpbflaaSame
namespace Go.Proofs.Ytadlmefdkpbflaa
open Go.RowKit

theorem refshift_any (a : Option Addr) (m c n : Nat) (zs : List Int) (w : World) (hx : Ints .u8 w a m c zs) (hB : Byt zs) (hm : m ≤ 1073741824) (hn : n ≤ 1048576) :
    Calls Try.prog 21 #[.slice a m c, .int .i64 n] w fun e w' => PolyR w w' e (toN zs <<< n) := by
  obtain ⟨i0, hi, hz0, hz1, hz2⟩ := info_parts info_u8
  have hcc := hx.cap
  have HX := Lib.hid hx
  have HB := Lib.hid hB
  clear hx hB
  go_enter Try.func21, Try.ntmps21
  go_wp2_with (first | (at_make; refine wpList_make_full _ rfl _ _ 22 rfl w.heap.size 5 i0 (.int .u8 0) 1 Try.underlying22 hi hz0 hz1 .i64 .i64 _ _ n rfl rfl rfl rfl (by rw [hz2]; omega) (by unfold maxLen; omega) (Nat.le_refl _) ?_; intro w2 hown hgrow; rw [zeros_cells] at hown; have HBW := Lib.hid (below_grown hgrow rfl); have HO := Lib.hid hown; have hs2 := hgrow.size; have HS := Lib.hid (HX.out.below HBW.out); clear hown hgrow) | (at_builtin; refine append_own_any _ rfl _ _ 22 rfl w.heap.size 5 i0 (.int .u8 0) 1 Try.underlying22 hi hz0 hz1 hz2 rfl _ _ _ rfl HO.out _ _ _ (zs.map (Value.int .u8)) rfl HS.out (ints_oneCell _ _) (by unfold maxLen; omega) (by omega) (by omega) ?_; intro v' w3 HO2 hgrow; rw [← List.map_append] at HO2; obtain ⟨a3, c3, hv3, hi3⟩ := Ints.own HO2.out; subst hv3; have HI3 := Lib.hid hi3; have HB3 := Lib.hid (HBW.out.grown hgrow.out (by omega) (fun k' hk' => (HO.out.lt k' hk').1)); have hs3 := HB3.out.size; clear hgrow hi3) | (go_at_call 17; refine (refreduce_any _ _ _ _ _ HI3.out ((Byt.replicate n).append HB.out) (by omega)).mono ?_; rintro e w4 ⟨a4, c4, rfl, hI4, hb4⟩; rw [toN_append_zeros] at hI4 ⊢; have HI4 := Lib.hid hI4; have HB4 := Lib.hid (HB3.out.trans (hb4.mono hs3)); clear hI4 hb4))
  go_ret
  exact ⟨_, _, rfl, HI4.out, HB4.out⟩

def onesB (n : Int) : Bool := decide (1 ≤ n) && decide (n ≤ 1048576)
theorem ones_no (n : Int) (w : World) (h : onesB n = false) :
    Calls Try.prog 20 #[.int .i64 n] w fun e w' => e = .returned (.slice none 0 0) ∧ w = w' := by
  unfold onesB at h
  simp at h
  by_cases h0 : n < 1
  · clear h
    go_enter Try.func20, Try.ntmps20
    go_wp2
    go_ret
    exact ⟨rfl, rfl⟩
  · have h1 : 1048576 < n := h (by omega)
    have d0 : decide (n < 1) = false := by simp; omega
    have d1 : decide (1048576 < n) = true := by simp; omega
    clear h h0
    go_enter Try.func20, Try.ntmps20
    go_wp2
    go_ret
    exact ⟨rfl, rfl⟩
theorem blk_one (w : World) : Blk (w.alloc (.cells #[.int .u8 1] 5)) w.heap.size [1] := by
  show (w.heap.push _)[w.heap.size]? = _; simp
theorem ones_yes (n : Nat) (w : World) (h1 : 1 ≤ n) (h2 : n ≤ 1048576) :
    Calls Try.prog 20 #[.int .i64 n] w fun e w' => ∃ g, e = .returned (.slice (some ⟨g, 0, none⟩) n n) ∧ w.heap.size ≤ g ∧ Blk w' g (List.replicate n 1) ∧ Below w.heap.size w w' := by
  obtain ⟨z, hz⟩ : ∃ z : Int, z = n := ⟨_, rfl⟩
  have d0 : decide (z < 1) = false := by simp; omega
  have d1 : decide (1048576 < z) = false := by simp; omega
  have HK := Lib.hid (blk_one w)
  have H1 := Lib.hid h1
  have H2 := Lib.hid h2
  rw [← hz]
  have HZ := Lib.hid hz
  clear h1 h2 hz
  go_enter Try.func20, Try.ntmps20
  go_wp2_with fail
  rw [HZ.out]
  refine (repeat_one _ n _ HK.out H1.out H2.out).mono ?_
  rintro e w1 ⟨g, rfl, hg, hk, hb⟩
  have HG := Lib.hid hg
  have HK1 := Lib.hid hk; have HB1 := Lib.hid (((Below.refl _ w).alloc (Nat.le_refl _) (.cells #[.int .u8 1] 5)).trans (hb.mono (by show w.heap.size ≤ (w.heap.push _).size; rw [Array.size_push]; omega))); clear hk hb hg
  go_wp2
  go_ret
  exact ⟨g, rfl, by have h : (w.heap.push _).size ≤ g := HG.out; rw [Array.size_push] at h; omega, HK1.out, HB1.out⟩

theorem lawsame_any (a b : Option Addr) (n c m d : Nat) (xs ys : List Int) (w : World) (hx : Ints .u8 w a n c xs) (hy : Ints .u8 w b m d ys) :
    Calls Try.prog 11 #[.slice a n c, .slice b m d] w fun e w' => e = .returned (.bool (eqL xs ys)) ∧ Below w.heap.size w w' := by
  have HX := Lib.hid hx
  have HY := Lib.hid hy
  clear hx hy
  go_enter Try.func11, Try.ntmps11
  go_wp2_with (go_at_call 28; refine (same_any _ _ _ _ _ _ _ _ _ HX.out HY.out).mono ?_; rintro e w1 ⟨rfl, hb⟩; have HB := Lib.hid hb; clear hb)
  go_ret
  exact ⟨rfl, HB.out⟩

/-- bit K of bytes, the lowest bit of the first byte first -/
def ofBit (zs : List Int) (K : Nat) : Int := nth zs (K / 8) / 2 ^ (K % 8) % 2
def ofL (zs : List Int) (N : Nat) : List Int := (List.range N).map fun j => ofBit zs (N - 1 - j)
theorem ofL_length (zs : List Int) (N : Nat) : (ofL zs N).length = N := by simp [ofL]
theorem nth_ofL {zs : List Int} {N j : Nat} (h : j < N) : nth (ofL zs N) j = ofBit zs (N - 1 - j) := by
  rw [nth_lt (by rw [ofL_length]; exact h)]; simp [ofL]
theorem ofBit_bit (zs : List Int) (K : Nat) : ofBit zs K = 0 ∨ ofBit zs K = 1 := mod2 _
theorem ofL_bits (zs : List Int) (N : Nat) : Bits (ofL zs N) := fun z hz => by
  obtain ⟨i, _, rfl⟩ := List.mem_map.1 hz
  exact ofBit_bit _ _
def ofP (zs : List Int) : Nat := toN (ofL zs (8 * zs.length))
theorem shr_byte {z : Int} (r : Nat) (h0 : 0 ≤ z) (h1 : z < 256) : 0 ≤ z / 2 ^ r ∧ z / 2 ^ r < 256 := by
  have hp : (0 : Int) < 2 ^ r := Int.pow_pos (by omega)
  refine ⟨Int.ediv_nonneg h0 (Int.le_of_lt hp), ?_⟩
  exact Int.lt_of_le_of_lt (Int.ediv_le_self _ h0) h1

theorem of_any (a : Option Addr) (n c : Nat) (zs : List Int) (w : World) (hx : Ints .u8 w a n c zs) (hB : Byt zs) (hn : n ≤ 1048576) :
    Calls Try.prog 22 #[.slice a n c] w fun e w' => ∃ g, e = .returned (.slice (some ⟨g, 0, none⟩) (sz (ofP zs)) (sz (ofP zs))) ∧ w.heap.size ≤ g ∧ Blk w' g (ofN (ofP zs)) ∧ Below w.heap.size w w' := by
  obtain ⟨i0, hi, hz0, hz1, hz2⟩ := info_parts info_u8
  have hcc := hx.cap
  have HB := Lib.hid hB
  have HL := Lib.hid hx.len
  obtain ⟨b1, o1, ha, hcx⟩ := hx.loc
  have HC := Lib.hid hcx
  have HA := Lib.hid ha
  clear hx hB hcx ha
  obtain ⟨N, hN⟩ : ∃ N, N = 8 * n := ⟨_, rfl⟩
  have hNi : 8 * (n : Int) = (N : Int) := by omega
  have HN := Lib.hid hN
  have hN2 : N ≤ 8388608 := by omega
  clear hN
  go_enter Try.func22, Try.ntmps22
  go_wp2_with (at_make; refine wpList_make_full _ rfl _ _ 24 rfl w.heap.size 5 i0 (.int .u8 0) 1 Try.underlying24 hi hz0 hz1 .i64 .i64 _ _ N rfl rfl rfl rfl (by rw [hz2]; omega) (by unfold maxLen; omega) (Nat.le_refl _) ?_; intro w2 hown hgrow; rw [zeros_cells] at hown; have HBW := Lib.hid (below_grown hgrow rfl); have HK := Lib.hid (blk_of_own hown); have hs2 := hgrow.size; clear hown hgrow)
  go_loopw [12] (fun i wr => ∃ j : Nat, j ≤ N ∧ i = .int .i64 j ∧ Below w.heap.size w wr ∧ ∃ ys, Blk wr w.heap.size ys ∧ ys.length = N ∧ ∀ t, t < j → nth ys t = ofBit zs (N - 1 - t)) (fun i _ => N - (intOf i).toNat)
  case atStart => exact ⟨0, Nat.zero_le _, rfl, HBW.out, _, HK.out, by simp, fun t ht => absurd ht (by omega)⟩
  case round =>
    obtain ⟨j, hj, rfl, hbw, ys, hk, hyl, hys⟩ := hrel
    have HBr := Lib.hid hbw
    have HKr := Lib.hid hk
    have HYL := Lib.hid hyl
    have HYS := Lib.hid hys
    clear hk hyl hys hbw HK HBW
    by_cases hlt : j < N
    · have hn8 := HN.out
      obtain rfl : a = some ⟨b1, o1, none⟩ := by rcases HA.out with h | h; exact h; exact absurd h (by omega)
      obtain ⟨K, hK⟩ : ∃ K, K = N - 1 - j := ⟨_, rfl⟩
      have e1 : (N : Int) - 1 - (j : Int) = (K : Int) := by omega
      obtain ⟨p, hp⟩ : ∃ p, p = K / 8 := ⟨_, rfl⟩
      obtain ⟨r, hr⟩ : ∃ r, r = K % 8 := ⟨_, rfl⟩
      have hr8 : r < 8 := by omega
      have e2 : (K : Int) / 8 = (p : Int) := by omega
      have e3 : (K : Int) % 8 = (r : Int) := by omega
      have e4 : (p : Int) < (n : Int) := by omega
      have e5 : (j : Int) < (N : Int) := by omega
      have h1 := (HBr.out.cell (p := ⟨b1, o1 + p, none⟩) (HC.out p (by omega)).1).trans (HC.out p (by omega)).2
      have h2 := HKr.out.cell (i := j) (by rw [HYL.out]; omega)
      have h3 := HKr.out.frozen j
      have hz := HB.out.nth p
      have hkb : b1 < w.heap.size := (HC.out p (by omega)).1
      have hsb := shr_byte r hz.1 hz.2
      have hand := and_one hsb.1 hsb.2
      have hnew : nth zs p / 2 ^ r % 2 = ofBit zs (N - 1 - j) := by unfold ofBit; rw [← hK, hp, hr]
      rw [hnew] at hand
      have HN2 := Lib.hid hnew
      clear hK hp hr hn8 hsb hnew
      go_wp2
      go_roundw
      case rel =>
        refine ⟨j + 1, by omega, by go_num, HBr.out.setCell (p := ⟨w.heap.size, j, none⟩) (Nat.le_refl _) _, _, HKr.out.set j _, by simp [HYL.out], fun t ht => ?_⟩
        rw [nth_set (by rw [HYL.out]; exact hlt)]
        by_cases e : t = j
        · rw [if_pos e, e]
        · rw [if_neg e]; exact HYS.out t (by omega)
      case measure => simp [intOf]; omega
    · obtain rfl : j = N := by omega
      have he : ys = ofL zs j := ext_nth (by rw [HYL.out, ofL_length]) (fun t ht => by rw [HYL.out] at ht; rw [HYS.out t ht, nth_ofL ht])
      have hP : toN ys = ofP zs := by unfold ofP; rw [HL.out, ← HN.out, he]
      have HP := Lib.hid hP
      have hby := Lib.hid (show Byt ys by rw [he]; exact (ofL_bits _ _).byt)
      have hsr := HBr.out.size
      clear he hP
      go_wp2_with fail
      refine (reduce_any _ _ _ ys _ (HKr.out.ints HYL.out (by omega)) hby.out (by omega)).mono ?_
      rintro e w3 ⟨g, rfl, hg, hk3, hb3⟩
      rw [HP.out] at hk3 ⊢
      have HK3 := Lib.hid hk3
      have HB3 := Lib.hid (HBr.out.trans (hb3.mono hsr))
      clear hk3 hb3
      go_wp2
      go_ret
      exact ⟨g, rfl, by omega, HK3.out, HB3.out⟩

set_option maxHeartbeats 4000000 in
theorem refof_any (a : Option Addr) (n c : Nat) (zs : List Int) (w : World) (hx : Ints .u8 w a n c zs) (hB : Byt zs) (hn : n ≤ 1048576) :
    Calls Try.prog 24 #[.slice a n c] w fun e w' => PolyR w w' e (ofP zs) := by
  obtain ⟨i0, hi, hz0, hz1, hz2⟩ := info_parts info_u8
  have hcc := hx.cap
  have HB := Lib.hid hB
  have HL := Lib.hid hx.len
  obtain ⟨b1, o1, ha, hcx⟩ := hx.loc
  have HC := Lib.hid hcx
  have HA := Lib.hid ha
  clear hx hB hcx ha
  go_enter Try.func24, Try.ntmps24
  go_wp2
  go_loopw [3, 4] (fun v i wr => ∃ s : Nat, s ≤ n ∧ i = .int .i64 ((s : Int) - 1) ∧ ∃ a' c', v = .slice a' (8 * (n - s)) c' ∧ wr.ownsRow w.heap.size 5 1 v (8 * (n - s)) (((ofL zs (8 * n)).take (8 * (n - s))).map (Value.int .u8)) ∧ Below w.heap.size w wr) (fun _ i _ => (intOf i + 1).toNat)
  case atStart => exact ⟨n, Nat.le_refl _, rfl, none, 0, by simp, by simpa using World.ownsRow_nil _ _ _ _, Below.refl _ _⟩
  case round =>
    obtain ⟨s, hs, rfl, a', c', rfl, hown, hbw⟩ := hrel
    have HO := Lib.hid hown
    have HW := Lib.hid hbw
    have hszr : w.heap.size ≤ wr.heap.size := hbw.size
    clear hown hbw
    cases s with
    | succ s =>
      obtain rfl : a = some ⟨b1, o1, none⟩ := by rcases HA.out with h | h; exact h; exact absurd h (by omega)
      have e0 : ((s + 1 : Nat) : Int) - 1 = (s : Int) := by omega
      rw [e0]
      clear e0
      obtain ⟨J, hJ⟩ : ∃ J, J = 8 * (n - (s + 1)) := ⟨_, rfl⟩
      rw [← hJ] at HO ⊢
      have hJ2 := Lib.hid (show J + 8 * s + 8 = 8 * n by omega)
      have hJ3 : J ≤ 8388608 := by omega
      clear hJ
      go_wp2
      go_loopw [3, 5] (fun v i wr => ∃ t : Nat, t ≤ 8 ∧ i = .int .i64 (7 - (t : Int)) ∧ ∃ a' c', v = .slice a' (J + t) c' ∧ wr.ownsRow w.heap.size 5 1 v (J + t) (((ofL zs (8 * n)).take (J + t)).map (Value.int .u8)) ∧ Below w.heap.size w wr) (fun _ i _ => (intOf i + 1).toNat)
      case atStart => exact ⟨0, Nat.zero_le _, rfl, a', c', by simp, by simpa using HO.out, HW.out⟩
      case round =>
        clear HO HW hszr
        obtain ⟨t, ht, rfl, a', c', rfl, hown, hbw⟩ := hrel
        have HO := Lib.hid hown
        have HW := Lib.hid hbw
        have hszr : w.heap.size ≤ wr.heap.size := hbw.size
        clear hown hbw
        by_cases hlt : t < 8
        · obtain ⟨r, hr⟩ : ∃ r, r = 7 - t := ⟨_, rfl⟩
          have e0 : (7 : Int) - (t : Int) = (r : Int) := by omega
          have hr8 : r ≤ 7 := by omega
          rw [e0]
          have hcj := (HW.out.cell (p := ⟨b1, o1 + s, none⟩) (HC.out s (by omega)).1).trans (HC.out s (by omega)).2
          have hz := HB.out.nth s
          have hsb := shr_byte r hz.1 hz.2
          have hnew : nth zs s / 2 ^ r % 2 = ofBit zs (8 * n - 1 - (J + t)) := by
            have := hJ2.out
            unfold ofBit
            rw [show (8 * n - 1 - (J + t)) / 8 = s by omega, show (8 * n - 1 - (J + t)) % 8 = r by omega]
          have hst := Lib.hid (take_succ_nth (zs := ofL zs (8 * n)) (k := J + t) (by rw [ofL_length]; have := hJ2.out; omega))
          have hnt := nth_ofL (zs := zs) (N := 8 * n) (j := J + t) (by have := hJ2.out; omega)
          rw [← hnew] at hnt
          have HNT := Lib.hid hnt
          have HT := Lib.hid (show t + r = 7 by omega)
          have HSL := Lib.hid (one_sl wr (nth zs s / 2 ^ r % 2) 5)
          clear hr e0 hnew hnt
          go_wp2_with (at_builtin; refine append_own_any _ rfl _ _ 22 rfl w.heap.size 5 i0 (.int .u8 0) 1 Try.underlying22 hi hz0 hz1 hz2 rfl (.slice a' (J + t) c') _ _ rfl (HO.out.alloc _) _ _ _ _ rfl HSL.out (ints_oneCell .u8 [nth zs s / 2 ^ r % 2]) (by unfold maxLen; omega) (by omega) (by simp; omega) ?_; intro v' w3 hown1 hgrow)
          have hown' := hown1.out
          rw [show [Value.int .u8 (nth zs s / 2 ^ r % 2)] = [nth zs s / 2 ^ r % 2].map (Value.int .u8) from rfl, ← List.map_append, ← HNT.out, ← hst.out] at hown'
          obtain ⟨a3, c3, hv3, _⟩ := Sl.own hown'
          subst hv3
          have HO2 := Lib.hid hown'
          have HW2 := Lib.hid ((HW.out.alloc hszr (.cells #[.int .u8 (nth zs s / 2 ^ r % 2)] 5)).grown hgrow.out (by simp; omega) (fun k' hk' => (HO.out.lt k' hk').1))
          go_roundw
          case rel => exact ⟨t + 1, by omega, by have := HT.out; congr 1; omega, a3, c3, rfl, HO2.out, HW2.out⟩
          case measure => simp [intOf]
        · obtain rfl : t = 8 := by omega
          clear hlt ht
          go_wp2
          go_roundw
          case rel =>
            have e : 8 * (n - s) = J + 8 := by have := hJ2.out; omega
            rw [← e] at HO
            exact ⟨s, by omega, rfl, a', c', by rw [e], by rw [e] at HO ⊢; exact HO.out, HW.out⟩
          case measure => simp [intOf]
    | zero =>
      rw [Nat.sub_zero, List.take_of_length_le (by rw [ofL_length]; omega)] at HO
      obtain ⟨a3, c3, hv3, hI⟩ := Ints.own HO.out
      cases hv3
      have HI := Lib.hid hI
      have hT := Lib.hid (show toN (ofL zs (8 * n)) = ofP zs by unfold ofP; rw [HL.out])
      clear hI
      go_wp2_with (go_at_call 17; refine (refreduce_any _ _ _ _ _ HI.out (ofL_bits _ _).byt (by omega)).mono ?_; rintro e w4 ⟨a4, c4, rfl, hI4, hb4⟩; rw [hT.out] at hI4 ⊢; have HI4 := Lib.hid hI4; have HB4 := Lib.hid (HW.out.trans (hb4.mono hszr)); clear hI4 hb4)
      go_ret
      exact ⟨_, _, rfl, HI4.out, HB4.out⟩
end Go.Proofs.Ytadlmefdkpbflaa

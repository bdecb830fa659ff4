/- A block of bytes that the call may write; poly.Reduce. -/
import Derived.Test.YtadlmefdkpbflaaPoly2
namespace Go.Proofs.Ytadlmefdkpbflaa
open Go.RowKit

theorem info_u8 : (Try.prog.info? 5).map (fun i => (i.zero, i.size, i.bytes)) = some (some (.int .u8 0), 1, 1) := by kernel_rfl

/-- BLOCK g HOLDS THE BYTES zs AND NOTHING ELSE -/
def Blk (w : World) (g : Nat) (zs : List Int) : Prop := w.heap[g]? = some (.cells (zs.map (Value.int .u8)).toArray 5 (0, 0))
theorem Blk.lt {w : World} {g : Nat} {zs : List Int} (h : Blk w g zs) : g < w.heap.size := (Array.getElem?_eq_some_iff.1 h).1
theorem Blk.cell {w : World} {g : Nat} {zs : List Int} (h : Blk w g zs) {i : Nat} (hi : i < zs.length) : w.cell? ⟨g, i, none⟩ = some (.int .u8 (nth zs i)) := by
  rw [nth_lt hi]
  simp [World.cell?, show w.heap[g]? = _ from h, hi]
theorem Blk.frozen {w : World} {g : Nat} {zs : List Int} (h : Blk w g zs) (i : Nat) : w.frozen? ⟨g, i, none⟩ = false := by simp [World.frozen?, show w.heap[g]? = _ from h]
theorem Blk.set {w : World} {g : Nat} {zs : List Int} (h : Blk w g zs) (i : Nat) (v : Int) : Blk (w.setCell ⟨g, i, none⟩ (.int .u8 v)) g (zs.set i v) := by
  obtain ⟨hlt, hk⟩ := Array.getElem?_eq_some_iff.1 h
  show (w.heap.modify g _)[g]? = _
  rw [Array.getElem?_eq_getElem (by rw [Array.size_modify]; exact hlt), Array.getElem_modify_self, hk]
  simp [List.map_set]
theorem Blk.below {w w' : World} {g : Nat} {zs : List Int} (h : Blk w g zs) (hb : Below w.heap.size w w') : Blk w' g zs := (hb.block g h.lt).trans h
theorem Blk.drewN {w : World} {g : Nat} {zs : List Int} (h : Blk w g zs) (q : Nat) : Blk (w.drewN q) g zs := h
theorem Blk.own {w : World} {g : Nat} {zs : List Int} (h : Blk w g zs) {base n : Nat} (hb : base ≤ g) (hn : zs.length = n) (hm : n ≤ maxLen) : w.ownsRow base 5 1 (.slice (some ⟨g, 0, none⟩) n n) n (zs.map (Value.int .u8)) :=
  ⟨by simpa using hn, .inr ⟨g, n, _, rfl, hb, h, Nat.le_refl _, hm, by simpa using hn, List.take_of_length_le (by simp [hn])⟩⟩
theorem blk_of_own {w : World} {g base n : Nat} {zs : List Int} (h : w.ownsRow base 5 1 (.slice (some ⟨g, 0, none⟩) n n) n (zs.map (Value.int .u8))) : Blk w g zs := by
  rcases h.2 with ⟨h1, _⟩ | ⟨g', cap, cur, h1, _, h2, _, _, h3, h4⟩
  · cases h1
  · cases h1
    have h5 : zs.length = n := by simpa using h.1
    have h6 : cur.toList = zs.map (Value.int .u8) := by
      rw [← h4, List.take_of_length_le (by simp; omega)]
    unfold Blk
    rw [h2, ← h6]
theorem Blk.ints {w : World} {g n : Nat} {zs : List Int} (h : Blk w g zs) (hn : zs.length = n) (hm : n ≤ 9223372036854775807) : Ints .u8 w (some ⟨g, 0, none⟩) n n zs := by
  obtain ⟨a, c, hv, hi⟩ := Ints.own (h.own (base := 0) (Nat.zero_le _) hn (by unfold maxLen; exact hm))
  cases hv; exact hi
theorem zeros_cells (g : Nat) : (madeCells (Value.int .u8 0).cells (g * 1)).toList = (List.replicate g (0 : Int)).map (Value.int .u8) := by
  rw [Nat.mul_one]
  show (madeCells #[Value.int .u8 0] g).toList = _
  rw [toList_madeCells_one, List.map_replicate]
theorem ints_oneCell (k : IntKind) (zs : List Int) : ∀ u ∈ zs.map (Value.int k), u.oneCell' = true := by
  intro u hu
  obtain ⟨z, _, rfl⟩ := List.mem_map.1 hu
  rfl

set_option maxHeartbeats 4000000 in
/-- poly.Reduce: a block of the call's own with the reduced list -/
theorem reduce_any (a : Option Addr) (n c : Nat) (zs : List Int) (w : World) (hx : Ints .u8 w a n c zs) (hB : Byt zs) (hn : n ≤ 1099511627776) :
    Calls Try.prog 16 #[.slice a n c] w fun e w' => ∃ g, e = .returned (.slice (some ⟨g, 0, none⟩) (sz (toN zs)) (sz (toN zs))) ∧ w.heap.size ≤ g ∧ Blk w' g (ofN (toN zs)) ∧ Below w.heap.size w w' := by
  obtain ⟨i0, hi, hz0, hz1, hz2⟩ := info_parts info_u8
  have hcc := hx.cap
  have hsz := sz_toN_le zs
  rw [hx.len] at hsz
  have HX := Lib.hid hx
  have HB := Lib.hid hB
  obtain ⟨b1, o1, ha, hcx⟩ := hx.loc
  have HC := Lib.hid hcx
  have HA := Lib.hid ha
  have HL := Lib.hid hx.len
  clear hx hB hcx ha
  have hbm := Lib.hid (fun i (h : i < sz (toN zs)) => bits_mod zs h)
  obtain ⟨x, hxe⟩ : ∃ x, x = toN zs := ⟨_, rfl⟩
  obtain ⟨N, hN⟩ : ∃ N, N = sz x := ⟨_, rfl⟩
  rw [← hxe] at hsz hbm ⊢
  rw [← hN] at hsz hbm ⊢
  have HN := Lib.hid hN
  have HXE := Lib.hid hxe
  clear hN hxe
  go_enter Try.func16, Try.ntmps16
  go_wp2_with fail
  refine (degree_any _ _ _ _ _ HX.out HB.out).mono ?_
  rintro e w1 ⟨rfl, hb1⟩
  rw [← HXE.out, ← HN.out]
  have HB1 := Lib.hid hb1
  have hs1 := hb1.size
  clear hb1
  go_wp2_with (at_make; refine wpList_make_full _ rfl _ _ 24 rfl w1.heap.size 5 i0 (.int .u8 0) 1 Try.underlying24 hi hz0 hz1 .i64 .i64 _ _ N rfl rfl rfl rfl (by rw [hz2]; omega) (by unfold maxLen; omega) (Nat.le_refl _) ?_; intro w2 hown hgrow; rw [zeros_cells] at hown; have HB2 := Lib.hid (HB1.out.trans ((below_grown hgrow rfl).mono hs1)); have HK := Lib.hid (blk_of_own hown); have hs2 := hgrow.size; clear hown hgrow)
  go_loopw [11] (fun i wr => ∃ j : Nat, j ≤ N ∧ i = .int .i64 j ∧ Below w.heap.size w wr ∧ ∃ ys, Blk wr w1.heap.size ys ∧ ys.length = N ∧ ∀ t, t < j → nth ys t = nth (bitsL x N) t) (fun i _ => N - (intOf i).toNat)
  case atStart => exact ⟨0, Nat.zero_le _, rfl, HB2.out, _, HK.out, by simp, fun t ht => absurd ht (by omega)⟩
  case round =>
    clear HK HB2
    obtain ⟨j, hj, rfl, hbw, ys, hk, hyl, hys⟩ := hrel
    have HBr := Lib.hid hbw
    have HK := Lib.hid hk
    have HY := Lib.hid hys
    have HYL := Lib.hid hyl
    clear hbw hk hys hyl
    by_cases hlt : j < N
    · obtain rfl : a = some ⟨b1, o1, none⟩ := by rcases HA.out with h | h; exact h; exact absurd h (by omega)
      clear HA
      have h1 := (HBr.out.cell (p := ⟨b1, o1 + j, none⟩) (HC.out j (by omega)).1).trans (HC.out j (by omega)).2
      have h2 := HK.out.cell (i := j) (by rw [HYL.out]; exact hlt)
      have h3 := HK.out.frozen j
      have hz := HB.out.nth j
      have hand := and_one hz.1 hz.2
      rw [← hbm.out j hlt] at hand
      obtain ⟨v, hv⟩ : ∃ v, v = nth (bitsL x N) j := ⟨_, rfl⟩
      rw [← hv] at hand
      have HV := Lib.hid hv
      clear hv
      go_wp2
      go_roundw
      case rel =>
        refine ⟨j + 1, by omega, by go_num, HBr.out.setCell (p := ⟨w1.heap.size, j, none⟩) hs1 _, _, HK.out.set j v, by simp [HYL.out], fun t ht => ?_⟩
        rw [nth_set (by rw [HYL.out]; exact hlt)]
        by_cases e : t = j
        · rw [if_pos e, e]; exact HV.out
        · rw [if_neg e]; exact HY.out t (by omega)
      case measure => simp [intOf]; omega
    · obtain rfl : j = N := by omega
      have he : ys = ofN x := by
        have h := ext_nth (xs := ys) (ys := bitsL x j) (by rw [HYL.out, bitsL_length]) (fun t ht => HY.out t (by rw [HYL.out] at ht; exact ht))
        rw [h]; unfold ofN; rw [HN.out]
      have HE := Lib.hid he
      go_wp2
      go_ret
      exact ⟨_, rfl, hs1, by rw [← HE.out]; exact HK.out, HBr.out⟩

end Go.Proofs.Ytadlmefdkpbflaa

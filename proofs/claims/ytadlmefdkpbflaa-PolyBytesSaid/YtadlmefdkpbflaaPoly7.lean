/- slices.Concat over polynomials; poly.Shift; slices.Repeat of one coefficient; poly.Ones. -/
import Derived.Test.YtadlmefdkpbflaaPoly6
import Derived.Laws.CopyOwn
import Derived.Deep.RegionLaw
namespace Go.Proofs.Ytadlmefdkpbflaa
open Go.RowKit

/-- slices.Grow(nil, n) -/
theorem grow_nil (n : Nat) (w : World) (hn : n ≤ 70368744177664) :
    Calls Try.prog 35 #[.slice none 0 0, .int .i64 n] w fun e w' => ∃ v, e = .returned v ∧ w'.ownsRow w.heap.size 5 1 v 0 [] ∧ Below w.heap.size w w' := by
  obtain ⟨i0, hi, hz0, hz1, hz2⟩ := info_parts info_u8
  by_cases h0 : n = 0
  · subst h0
    go_enter Try.func35, Try.ntmps35
    go_wp2
    go_ret
    exact ⟨_, rfl, World.ownsRow_nil _ _ _ _, Below.refl _ _⟩
  · have hrz : ∀ ty, (Builtin.append_ #[24, 3] ty #[.slice none 0 0, .int .i64 (n : Int)]).run Try.prog w =
        .ok (.slice (some ⟨w.heap.size, 0, none⟩) n (grownCap w n 0 5)) (w.drew.alloc (.cells (#[] ++ Builtin.zeroCells (Value.int .u8 0).cells n ++ Builtin.zeroCells (Value.int .u8 0).cells (grownCap w n 0 5 - n)) 5)) := fun ty => by
      have h := Lib.run_append_grow_zeros (P := Try.prog) w 24 3 ty 5 i0 (.int .u8 0) .i64 .i64 Try.underlying24 Try.underlying3 hi hz0 none 0 0 [] (run_firstCells_none w.drew i0.size 0 0 0) n (by omega) (by omega) (by omega) (by omega)
        (by rw [hz2]; omega) (by
          have := growslice_fits (need := 0 + n) (old := 0) (bytes := i0.bytes) (by omega) (by rw [hz2]; omega)
          exact this)
      simpa using h
    have hG : n ≤ grownCap w n 0 5 := grownCap_ge w _ _ _
    have hGm : grownCap w n 0 5 ≤ maxLen := grownCap_le_maxLen w n 0 5 (by unfold maxLen; omega)
    have hsz : (#[] ++ Builtin.zeroCells (Value.int .u8 0).cells n ++ Builtin.zeroCells (Value.int .u8 0).cells (grownCap w n 0 5 - n)).size = grownCap w n 0 5 * 1 := by
      simp only [Array.size_append, size_zeroCells]
      simp [Value.cells]
      omega
    obtain ⟨G, hGe⟩ : ∃ G, G = grownCap w n 0 5 := ⟨_, rfl⟩
    rw [← hGe] at hrz hG hGm hsz
    obtain ⟨cs, hcs⟩ : ∃ cs, cs = (#[] ++ Builtin.zeroCells (Value.int .u8 0).cells n ++ Builtin.zeroCells (Value.int .u8 0).cells (G - n)) := ⟨_, rfl⟩
    rw [← hcs] at hrz hsz
    have hm := hGm
    unfold maxLen at hm
    have hnn : ¬ ((n : Int) < 0) := by omega
    have hnp : (n : Int) > 0 := by omega
    have HG := Lib.hid hsz
    clear hGe hcs hsz
    go_enter Try.func35, Try.ntmps35
    go_wp2_with (at_builtin; refine Lib.wpList_append_run _ rfl _ _ _ _ rfl _ _ rfl rfl _ _ (hrz _) ?_)
    go_ret
    exact ⟨_, rfl, World.ownsRow_made w.drew cs G (Nat.le_refl _) hGm HG.out, ((Below.refl _ w).drew).alloc (Nat.le_refl _) _⟩

theorem concat_any (a : Option Addr) (n c : Nat) (ps : List Part) (w : World) (hp : Parts w a n c ps) (ht : tot ps ≤ 1099511627776) :
    Calls Try.prog 31 #[.slice a n c] w fun e w' => ∃ v, e = .returned v ∧ w'.ownsRow w.heap.size 5 1 v (tot ps) ((cat ps).map (Value.int .u8)) ∧ Below w.heap.size w w' := by
  obtain ⟨i0, hi, hz0, hz1, hz2⟩ := info_parts info_u8
  have hl1 := hp.len
  have hc1 : n ≤ c ∧ c ≤ 9223372036854775807 := ⟨hp.1.2.1, hp.1.2.2.1⟩
  have L1 := Lib.hid hl1
  have HP := Lib.hid hp
  have hcl := hp.cells
  clear hl1 hp
  rcases hcl with ⟨rfl, rfl⟩ | ⟨b1, o1, rfl, hb1, hn0, hcx⟩
  · go_enter Try.func31, Try.ntmps31
    go_wp2
    refine wp_loop_rounds 1 ?_
    rw [rounds_succ]
    go_wp2_with fail
    refine (grow_nil 0 _ (by omega)).mono ?_
    rintro e w1 ⟨v, rfl, hown, hb⟩
    have HO := Lib.hid hown
    have HW := Lib.hid hb
    clear hown hb
    go_wp2
    go_rounds 1
    all_goals go_ret
    all_goals exact ⟨_, rfl, HO.out, HW.out⟩
  · have HX := Lib.hid hcx
    clear hcx
    go_enter Try.func31, Try.ntmps31
    go_wp2
    go_loop [3, 5, 11] (fun s _ i => ∃ k : Nat, k ≤ n ∧ i = .int .i64 k ∧ s = .int .i64 (tot (ps.take k))) (fun _ _ i => n - (intOf i).toNat)
    case atStart => exact ⟨0, Nat.zero_le _, rfl, rfl⟩
    case round =>
      obtain ⟨k, hk, rfl, rfl⟩ := hrel
      have hle := tot_take_le ps k
      by_cases hlt : k < n
      · have h1 := HX.out k hlt
        have hle2 := part_le (ps := ps) (k := k) (by rw [L1.out]; exact hlt)
        have hst := Lib.hid (tot_take (ps := ps) (k := k) (by rw [L1.out]; exact hlt))
        go_wp2
        go_round
        case rel => exact ⟨k + 1, by omega, by go_num, by rw [hst.out]; go_num⟩
        case measure => simp [intOf]; omega
      · have he : Hid (ps.take k = ps) := List.take_of_length_le (by rw [L1.out]; omega)
        rw [he.out] at hle
        go_wp2_with fail
        rw [he.out]
        refine (grow_nil (tot ps) _ (by omega)).mono ?_
        rintro e w1 ⟨v, rfl, hown, hb⟩
        have h00 : Hid (w1.ownsRow w.heap.size 5 1 v (tot (ps.take 0)) ((cat (ps.take 0)).map (Value.int .u8))) := hown
        have HW := Lib.hid hb
        clear hown hb hle he
        go_wp2
        go_loopw [6, 8, 27] (fun v _ i wr => ∃ k : Nat, k ≤ n ∧ i = .int .i64 k ∧ wr.ownsRow w.heap.size 5 1 v (tot (ps.take k)) ((cat (ps.take k)).map (Value.int .u8)) ∧ Below w.heap.size w wr) (fun _ _ i _ => n - (intOf i).toNat)
        case atStart => exact ⟨0, Nat.zero_le _, rfl, h00.out, HW.out⟩
        case round =>
          clear h00 HW
          obtain ⟨k, hk, rfl, hown, hbw⟩ := hrel
          have HO := Lib.hid hown
          have HWr := Lib.hid hbw
          have hle := tot_take_le ps k
          have hszr : w.heap.size ≤ wr.heap.size := hbw.size
          clear hown hbw
          by_cases hlt : k < n
          · have hcell : wr.cell? ⟨b1, o1 + k, none⟩ = some (.slice (prt ps k).a (prt ps k).n (prt ps k).c) := (HWr.out.cell (p := ⟨b1, o1 + k, none⟩) hb1).trans (HX.out k hlt)
            have hle2 := part_le (ps := ps) (k := k) (by rw [L1.out]; exact hlt)
            have hst := Lib.hid (tot_take (ps := ps) (k := k) (by rw [L1.out]; exact hlt))
            have hsc := Lib.hid (cat_take (ps := ps) (k := k) (by rw [L1.out]; exact hlt))
            have HS := Lib.hid (((HP.out.2 _ (prt_mem (by rw [L1.out]; exact hlt))).1).below HWr.out)
            go_wp2_with (at_builtin; refine append_own_any _ rfl _ _ 24 rfl w.heap.size 5 i0 (.int .u8 0) 1 Try.underlying24 hi hz0 hz1 hz2 rfl _ _ _ rfl HO.out _ _ _ ((prt ps k).zs.map (Value.int .u8)) rfl HS.out (ints_oneCell _ _) (by unfold maxLen; omega) (by omega) (by omega) ?_; intro v' w2 HO2 hgrow)
            have HW2 := Lib.hid (HWr.out.grown hgrow.out (by omega) (fun k' hk' => (HO.out.lt k' hk').1))
            clear hgrow HO HWr
            go_wp2
            go_roundw
            case rel => exact ⟨k + 1, by omega, by go_num, by rw [hst.out, hsc.out, List.map_append]; exact HO2.out, HW2.out⟩
            case measure => simp [intOf]; omega
          · have he : Hid (ps.take k = ps) := List.take_of_length_le (by rw [L1.out]; omega)
            rw [he.out] at HO
            clear hle he
            go_wp2
            go_ret
            exact ⟨_, rfl, HO.out, HWr.out⟩

/-- 2^20 -/
def shiftB (n : Int) : Bool := decide (0 ≤ n) && decide (n ≤ 1048576)
theorem shift_no (a : Option Addr) (m c : Nat) (n : Int) (w : World) (h : shiftB n = false) :
    Calls Try.prog 19 #[.slice a m c, .int .i64 n] w fun e w' => e = .returned (.slice none 0 0) ∧ w = w' := by
  unfold shiftB at h
  simp at h
  by_cases h0 : n < 0
  · clear h
    go_enter Try.func19, Try.ntmps19
    go_wp2
    go_ret
    exact ⟨rfl, rfl⟩
  · have h1 : 1048576 < n := h (by omega)
    have d0 : decide (n < 0) = false := by simp; omega
    have d1 : decide (1048576 < n) = true := by simp; omega
    clear h h0
    go_enter Try.func19, Try.ntmps19
    go_wp2
    go_ret
    exact ⟨rfl, rfl⟩
theorem toN_append_zeros (n : Nat) (zs : List Int) : toN (List.replicate n 0 ++ zs) = toN zs <<< n := by
  apply Nat.eq_of_testBit_eq
  intro i
  rw [testBit_toN, Nat.testBit_shiftLeft]
  by_cases h : n ≤ i
  · rw [nth_append_right (by simp; omega), testBit_toN]
    simp [h]
  · rw [nth_append_left (by simp; omega)]
    have : nth (List.replicate n (0 : Int)) i = 0 := by
      unfold nth; rw [List.getD_eq_getElem?_getD, List.getElem?_replicate]; split <;> rfl
    rw [this]
    simp [h]

set_option maxHeartbeats 4000000 in
theorem shift_yes (a : Option Addr) (m c n : Nat) (zs : List Int) (w : World) (hx : Ints .u8 w a m c zs) (hB : Byt zs) (hm : m ≤ 1073741824) (hn : n ≤ 1048576) :
    Calls Try.prog 19 #[.slice a m c, .int .i64 n] w fun e w' => ∃ g, e = .returned (.slice (some ⟨g, 0, none⟩) (sz (toN zs <<< n)) (sz (toN zs <<< n))) ∧ w.heap.size ≤ g ∧ Blk w' g (ofN (toN zs <<< n)) ∧ Below w.heap.size w w' := by
  obtain ⟨i0, hi, hz0, hz1, hz2⟩ := info_parts info_u8
  have hcc := hx.cap
  have HX := Lib.hid hx
  have HB := Lib.hid hB
  clear hx hB
  go_enter Try.func19, Try.ntmps19
  go_wp2_with (at_make; refine wpList_make_full _ rfl _ _ 24 rfl w.heap.size 5 i0 (.int .u8 0) 1 Try.underlying24 hi hz0 hz1 .i64 .i64 _ _ n rfl rfl rfl rfl (by rw [hz2]; omega) (by unfold maxLen; omega) (Nat.le_refl _) ?_; intro w2 hown hgrow; rw [zeros_cells] at hown; have HBW := Lib.hid (below_grown hgrow rfl); have HK := Lib.hid (blk_of_own hown); have hs2 := hgrow.size; clear hown hgrow)
  have hP := Parts.new w2 [⟨some ⟨w.heap.size, 0, none⟩, n, n, List.replicate n 0⟩, ⟨a, m, c, zs⟩] 24 2 rfl (by omega) (fun p hp => by
    simp only [List.mem_cons, List.not_mem_nil, or_false] at hp
    rcases hp with rfl | rfl
    · exact ⟨(HK.out.ints (n := n) (by simp) (by omega) : Ints .u8 w2 (some ⟨w.heap.size, 0, none⟩) n n (List.replicate n 0)), Byt.replicate n⟩
    · exact ⟨HX.out.below HBW.out, HB.out⟩)
  have HP := Lib.hid hP
  have hlen : tot [⟨some ⟨w.heap.size, 0, none⟩, n, n, List.replicate n 0⟩, ⟨a, m, c, zs⟩] = n + m := by simp [tot]
  have hcat : cat [⟨some ⟨w.heap.size, 0, none⟩, n, n, List.replicate n 0⟩, ⟨a, m, c, zs⟩] = List.replicate n 0 ++ zs := by simp [cat]
  have HLn := Lib.hid hlen
  have HCt := Lib.hid hcat
  clear hP hlen hcat HK
  go_wp2_with fail
  refine (concat_any _ _ _ _ _ HP.out (by rw [HLn.out]; omega)).mono ?_
  rintro e w3 ⟨v, rfl, hown2, hb2⟩
  rw [HLn.out, HCt.out] at hown2
  obtain ⟨a3, c3, hv3, hi3⟩ := Ints.own hown2
  subst hv3
  have HI3 := Lib.hid hi3
  have HB3 := Lib.hid ((HBW.out.alloc hs2 (.cells #[.slice (some ⟨w.heap.size, 0, none⟩) n n, .slice a m c] 24)).trans (hb2.mono (by simp; omega)))
  have hs3 := HB3.out.size
  have HBY := Lib.hid (show Byt (List.replicate n 0 ++ zs) from (Byt.replicate n).append HB.out)
  clear hown2 hb2 hi3 HP
  go_wp2_with fail
  refine (reduce_any _ _ _ _ _ HI3.out HBY.out (by omega)).mono ?_
  rintro e w4 ⟨g, rfl, hg, hk4, hb4⟩
  rw [toN_append_zeros] at hk4 ⊢
  have HK4 := Lib.hid hk4
  have HB4 := Lib.hid (HB3.out.trans (hb4.mono hs3))
  clear hk4 hb4
  go_wp2
  go_ret
  exact ⟨_, rfl, by omega, HK4.out, HB4.out⟩

theorem and_u64 {n : Nat} (h : n ≤ 1048576) : bits .and .u64 (n : Int) 4294967295 = (n : Int) := by
  have := bits_and_u64_nat n 4294967295 (by omega) (by omega)
  rw [show ((4294967295 : Nat) : Int) = 4294967295 from rfl] at this
  rw [this, show 4294967295 = 2 ^ 32 - 1 from rfl, Nat.and_two_pow_sub_one_eq_mod]
  omega
theorem mul64_one (n : Nat) (w : World) (h : n ≤ 1048576) : Calls Try.prog 38 #[.int .u64 1, .int .u64 n] w fun e w' => e = .returned (.tuple #[.int .u64 0, .int .u64 n]) ∧ w = w' := by
  have h1 := and_u64 h
  have h2 : bits .and .u64 1 4294967295 = 1 := by decide
  have h3 : bits .and .u64 0 4294967295 = 0 := by decide
  have h4 : (n : Int) / 4294967296 = 0 := by omega
  go_enter Try.func38, Try.ntmps38
  go_wp2
  go_ret2
  exact ⟨rfl, rfl⟩

theorem mul_one (n : Nat) (w : World) (h : n ≤ 1048576) : Calls Try.prog 36 #[.int .u64 1, .int .u64 n] w fun e w' => e = .returned (.tuple #[.int .u64 0, .int .u64 n]) ∧ w = w' := by
  go_enter Try.func36, Try.ntmps36
  go_wp2_with (go_at_call 38; refine (mul64_one _ _ h).mono ?_; rintro e w' ⟨rfl, rfl⟩)
  go_ret2
  exact ⟨rfl, rfl⟩

/-- k coefficients 1, then 0 -/
def onesL (k N : Nat) : List Int := List.replicate k 1 ++ List.replicate (N - k) 0
theorem onesL_length {k N : Nat} (h : k ≤ N) : (onesL k N).length = N := by simp [onesL]; omega
theorem onesL_full (N : Nat) : onesL N N = List.replicate N 1 := by simp [onesL]
theorem splice_ones (k N q : Nat) : splice ((onesL k N).map (Value.int .u8)) k ((List.replicate q 1).map (Value.int .u8)) = (onesL (k + q) N).map (Value.int .u8) := by
  have h1 : ((onesL k N).map (Value.int .u8)).take k = (List.replicate k 1).map (Value.int .u8) := by
    rw [← List.map_take]; unfold onesL; rw [List.take_left' (by simp)]
  have h2 : ((onesL k N).map (Value.int .u8)).drop (k + q) = (List.replicate (N - (k + q)) 0).map (Value.int .u8) := by
    rw [← List.map_drop]; unfold onesL
    rw [← List.drop_drop, List.drop_left' (by simp), List.drop_replicate, Nat.sub_sub]
  unfold splice
  rw [List.length_map, List.length_replicate, h1, h2, ← List.map_append, ← List.map_append]
  unfold onesL
  rw [← List.append_assoc, List.replicate_append_replicate]

theorem blk_ones0 {w : World} {g n : Nat} (h : Blk w g (List.replicate n 0)) : w.heap[g]? = some (.cells ((onesL 0 n).map (Value.int .u8)).toArray 5 (0, 0)) := by
  have e : onesL 0 n = List.replicate n 0 := by simp [onesL]
  rw [e]; exact h
theorem blk_ones1 {w : World} {g n : Nat} (h : w.heap[g]? = some (.cells (splice ((onesL 0 n).map (Value.int .u8)) 0 [.int .u8 1]).toArray 5 (0, 0))) : Blk w g (onesL 1 n) := by
  have e := splice_ones 0 n 1
  rw [show (List.replicate 1 (1 : Int)).map (Value.int .u8) = [.int .u8 1] from rfl] at e
  rw [e] at h; exact h
theorem one_cell {w : World} {g j : Nat} {v : Value} (h : Blk w g [1]) (hv : [Value.int .u8 1][j]? = some v) : w.cell? ((⟨g, 0, none⟩ : Addr).add j) = some v := by
  rw [Addr.add_lit, Nat.zero_add]
  cases j with
  | zero => cases hv; exact h.cell (i := 0) (by simp)
  | succ j => cases hv

set_option maxHeartbeats 8000000 in
/-- slices.Repeat of one coefficient 1 -/
theorem repeat_one (g0 n : Nat) (w : World) (hk : Blk w g0 [1]) (h1 : 1 ≤ n) (h2 : n ≤ 1048576) :
    Calls Try.prog 32 #[.slice (some ⟨g0, 0, none⟩) 1 1, .int .i64 n] w fun e w' => ∃ g, e = .returned (.slice (some ⟨g, 0, none⟩) n n) ∧ w.heap.size ≤ g ∧ Blk w' g (List.replicate n 1) ∧ Below w.heap.size w w' := by
  obtain ⟨i0, hi, hz0, hz1, hz2⟩ := info_parts info_u8
  have hsz : (Try.prog.info? 5).map (·.size) = some 1 := by rw [hi]; simp [hz1]
  have HK0 := Lib.hid hk
  have hg0 := hk.lt
  clear hk
  go_enter Try.func32, Try.ntmps32
  go_wp2_with (first | (go_at_call 36; refine (mul_one _ _ h2).mono ?_; rintro e w' ⟨rfl, rfl⟩) | (at_make; refine wpList_make_full _ rfl _ _ 24 rfl w.heap.size 5 i0 (.int .u8 0) 1 Try.underlying24 hi hz0 hz1 .i64 .i64 _ _ n rfl rfl rfl rfl (by rw [hz2]; omega) (by unfold maxLen; omega) (Nat.le_refl _) ?_; intro w2 hown hgrow; rw [zeros_cells] at hown; have HBW := Lib.hid (below_grown hgrow rfl); have HK := Lib.hid (blk_of_own hown); have hs2 := hgrow.size; have HK1 := Lib.hid (HK0.out.below HBW.out); have hK0 := blk_ones0 HK.out; clear hown hgrow) | (refine wpList_copy_splice rfl _ _ 24 24 rfl 5 Try.underlying24 hsz (some ⟨w.heap.size, 0, none⟩) (some ⟨g0, 0, none⟩) n n 1 1 rfl rfl w.heap.size 0 _ 5 hK0 [.int .u8 1] (Nat.min_eq_left h1).symm (fun _ => ⟨rfl, _, rfl, fun j v hv => one_cell HK1.out hv⟩) (by simp [onesL_length (Nat.zero_le n)]; omega) (by intro u hu; simp at hu; subst hu; rfl) w.heap.size w HBW.out (Nat.le_refl _) ?_; intro w3 hk3 hb3; have HB3 := Lib.hid hb3; have HK3 := Lib.hid (blk_ones1 hk3.out); clear hk3 hb3))
  go_loopw [8] (fun i wr => ∃ k : Nat, 1 ≤ k ∧ k ≤ n ∧ i = .int .i64 k ∧ Below w.heap.size w wr ∧ Blk wr w.heap.size (onesL k n)) (fun i _ => n - (intOf i).toNat)
  case atStart => exact ⟨1, Nat.le_refl _, h1, rfl, HB3.out, HK3.out⟩
  case round =>
    clear HK3 HB3
    obtain ⟨k, hk1, hkn, rfl, hbw, hk⟩ := hrel
    have HBr := Lib.hid hbw
    have HKr := Lib.hid hk
    clear hbw hk
    by_cases hlt : k < n
    · have e1 : (k : Int) ≤ (n : Int) := by omega
      obtain ⟨q, hq, hq1, hq2, hq3⟩ : ∃ q, q = min k (n - k) ∧ q ≤ k ∧ k + q ≤ n ∧ 1 ≤ q := ⟨_, rfl, by omega, by omega, by omega⟩
      have e2 : IntKind.i64.wrap ((k : Int) + (q : Int)) = (k : Int) + (q : Int) := by rw [IntKind.wrap_i64]; omega
      have HQ := Lib.hid (show ((List.replicate q (1 : Int)).map (Value.int .u8)).length = Nat.min k (n - k) by simp; exact hq)
      have HS := Lib.hid (show ∀ j v, ((List.replicate q (1 : Int)).map (Value.int .u8))[j]? = some v → wr.cell? ((⟨w.heap.size, 0, none⟩ : Addr).add j) = some v from fun j v hv => by
        rw [Addr.add_lit, Nat.zero_add]
        rw [List.map_replicate, List.getElem?_replicate] at hv
        split at hv
        · cases hv
          have := HKr.out.cell (i := j) (by rw [onesL_length (by omega)]; omega)
          rw [this]
          congr 2
          unfold onesL
          rw [nth_append_left (by simp; omega)]
          unfold nth; rw [List.getD_eq_getElem?_getD, List.getElem?_replicate, if_pos (by omega)]; rfl
        · cases hv)
      have HF := Lib.hid (show k + ((List.replicate q (1 : Int)).map (Value.int .u8)).length ≤ ((onesL k n).map (Value.int .u8)).length by simp [onesL_length (show k ≤ n by omega)]; omega)
      have HBd := Lib.hid HBr.out.drew
      clear hq
      go_wp2
      go_region_law (refine step_copy_splice rfl (.tmp 41) (.tmp 44) 24 24 rfl 5 Try.underlying24 hsz (some ⟨w.heap.size, k, none⟩) (some ⟨w.heap.size, 0, none⟩) (n - k) (n - k) k n (by simp [Act.eval, Act.put]; omega) (by simp [Act.eval, Act.put]) w.heap.size k ((onesL k n).map (Value.int .u8)) 5 HKr.out ((List.replicate q 1).map (Value.int .u8)) HQ.out (fun _ => ⟨rfl, _, rfl, HS.out⟩) HF.out (ints_oneCell .u8 _) w.heap.size w HBd.out (Nat.le_refl _) ?_; intro w4 hg4 hb4; have HK4 := Lib.hid (show Blk w4 w.heap.size (onesL (k + q) n) by have := hg4.out; rw [splice_ones] at this; exact this); have HB4 := Lib.hid hb4; clear hg4 hb4)
      go_wp2
      go_roundw
      case rel => exact ⟨k + q, by omega, by omega, by go_num, HB4.out, HK4.out⟩
      case measure => simp [intOf]; omega
    · obtain rfl : k = n := by omega
      go_wp2
      go_ret
      exact ⟨_, rfl, Nat.le_refl _, by rw [← onesL_full]; exact HKr.out, HBr.out⟩

end Go.Proofs.Ytadlmefdkpbflaa

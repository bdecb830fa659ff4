/- The reference's Numbers and Join; wire.Join. -/
import Derived.Test.YtoldkoeijgnflaaRefs
namespace Go.Proofs.Ytoldkoeijgnflaa
open Go.RowKit

theorem numsL_succ (zs : List Int) (m j : Nat) : numsL zs m (j + 1) = numsL zs m j ++ [numAt zs m j] := by simp [numsL, List.range_succ]

set_option maxHeartbeats 4000000 in
theorem refnumbers_any (k : Int) (a : Option Addr) (n c : Nat) (zs : List Int) (w : World) (hx : Ints .u8 w a n c zs) (hB : Byt zs) (hn : n ≤ 1099511627776) :
    Calls Try.prog 18 #[.int .i64 k, .slice a n c] w fun e w' => ∃ a' c', e = .returned (.slice a' (numsZ k zs).length c') ∧ Ints .u32 w' a' (numsZ k zs).length c' (numsZ k zs) ∧ Below w.heap.size w w' := by
  obtain ⟨i0, hi, hz0, hz1, hz2⟩ := info_parts info_u32
  have hl := hx.len
  have hcc := hx.cap
  have HX := Lib.hid hx
  cases hk : rightB k with
  | false =>
    have hz : numsZ k zs = [] := by unfold numsZ; rw [if_neg (by simp [hk])]
    rw [hz]
    clear hx hl hz HX
    go_enter Try.func18, Try.ntmps18
    go_wp2_with (go_at_call 19; refine (refright_any _ _).mono ?_; rintro e w' ⟨rfl, rfl⟩; rw [hk])
    all_goals go_ret
    exact ⟨_, _, rfl, Ints.nil _ _, Below.refl _ _⟩
  | true =>
    have hk3 := right_cases hk
    obtain ⟨m, rfl⟩ : ∃ m : Nat, k = m := ⟨k.toNat, by omega⟩
    have hm : 1 ≤ m ∧ m ≤ 4 := by omega
    by_cases h0 : n % m = 0
    · have hz : numsZ m zs = numsL zs m (n / m) := by unfold numsZ; rw [if_pos ⟨hk, by rw [hl]; exact h0⟩, hl]; rfl
      have hzl : (numsZ m zs).length = n / m := by rw [hz, numsL_length]
      have hdm : n / m * m = n := Nat.div_mul_cancel (Nat.dvd_of_mod_eq_zero h0)
      have d0 : ((n : Int) % (m : Int) != 0) = false := by
        have : ((n : Int) % (m : Int)) = ((n % m : Nat) : Int) := by simp
        rw [this, h0]; rfl
      rw [hzl, hz]
      obtain ⟨N, hN⟩ : ∃ N, N = n / m := ⟨_, rfl⟩
      rw [← hN] at hdm ⊢
      have hNb : N ≤ 1099511627776 := by rw [hN]; have := Nat.div_le_self n m; omega
      have HD := Lib.hid hdm
      have HLn := Lib.hid hl
      clear hz hzl hN hx hl hdm hk3
      go_enter Try.func18, Try.ntmps18
      go_wp2_with (go_at_call 19; refine (refright_any _ _).mono ?_; rintro e w' ⟨rfl, rfl⟩; rw [hk])
      go_loopw [5, 6] (fun v i wr => ∃ j p : Nat, j ≤ N ∧ p = j * m ∧ i = .int .i64 p ∧ ∃ a' c', v = .slice a' j c' ∧ wr.ownsRow w.heap.size 32 1 v j ((numsL zs m j).map (Value.int .u32)) ∧ Below w.heap.size w wr) (fun _ i _ => n - (intOf i).toNat)
      case atStart => exact ⟨0, 0, Nat.zero_le _, by simp, rfl, none, 0, by simp, by simpa [numsL] using World.ownsRow_nil _ _ _ _, Below.refl _ _⟩
      case round =>
        obtain ⟨j, p, hj, hp, rfl, a', c', rfl, hown, hbw⟩ := hrel
        have HO := Lib.hid hown
        have HW := Lib.hid hbw
        have HP := Lib.hid hp
        have hszr : w.heap.size ≤ wr.heap.size := hbw.size
        clear hown hbw hp
        by_cases hlt : p < n
        · have hjN : j < N := by
            rcases Nat.lt_or_ge j N with h | h
            · exact h
            · have h2 := Nat.mul_le_mul_right m h; rw [HD.out, ← HP.out] at h2; omega
          have hpm : p + m ≤ n := by
            have h2 : (j + 1) * m ≤ N * m := Nat.mul_le_mul_right m hjN
            rw [Nat.add_mul, Nat.one_mul, ← HP.out, HD.out] at h2; exact h2
          have hat : num ((zs.drop p).take m) = numAt zs m j := by unfold numAt; rw [← HP.out]
          have HX2 := Lib.hid (HX.out.below HW.out)
          have HAT := Lib.hid hat
          clear hat
          go_wp2_with (first | (go_at_call 12; refine (refnumber_yes _ _ _ _ _ _ _ HX2.out hB (by omega) hk hpm).mono ?_; rintro e w' ⟨rfl, rfl⟩; rw [HAT.out]) | (at_builtin; refine append_own_any _ rfl _ _ 38 rfl w.heap.size 32 i0 (.int .u32 0) 4 Try.underlying38 hi hz0 hz1 hz2 rfl (.slice a' j c') _ _ rfl (HO.out.alloc _) _ _ _ [.int .u32 (numAt zs m j)] rfl (Sl.at _ _ [.int .u32 (numAt zs m j)] 32 1 rfl rfl (by omega)) (ints_oneCell .u32 [numAt zs m j]) (by unfold maxLen; omega) (by omega) (by simp; omega) ?_; intro v' w2 hown1 hgrow))
          have hown' := hown1.out
          rw [show (numsL zs m j).map (Value.int .u32) ++ [.int .u32 (numAt zs m j)] = (numsL zs m (j + 1)).map (Value.int .u32) by rw [numsL_succ]; simp] at hown'
          obtain ⟨a3, c3, hv3, _⟩ := Sl.own hown'
          subst hv3
          have HO2 := Lib.hid hown'
          have HW2 := Lib.hid ((HW.out.alloc hszr (.cells #[.int .u32 (numAt zs m j)] 32)).grown hgrow.out (by simp; omega) (fun k' hk' => (HO.out.lt k' hk').1))
          clear hown' hown1 hgrow HO HW HX2 HAT
          go_wp2
          go_roundw
          case rel => exact ⟨j + 1, p + m, by omega, by rw [HP.out, Nat.add_mul, Nat.one_mul], by go_num, a3, c3, rfl, HO2.out, HW2.out⟩
          case measure => simp [intOf]; omega
        · have hjn : j = N := by
            rcases Nat.lt_or_ge j N with h | h
            · have h2 : (j + 1) * m ≤ N * m := Nat.mul_le_mul_right m h
              rw [Nat.add_mul, Nat.one_mul, ← HP.out, HD.out] at h2; omega
            · omega
          subst hjn
          go_wp2
          go_ret
          obtain ⟨a4, c4, hv4, hi4⟩ := Ints.own HO.out
          cases hv4
          exact ⟨_, _, rfl, hi4, HW.out⟩
    · have hz : numsZ m zs = [] := by unfold numsZ; rw [if_neg (by rw [hl]; intro h; exact h0 h.2)]
      rw [hz]
      clear hx hl hz hk3 HX
      go_enter Try.func18, Try.ntmps18
      go_wp2_with (go_at_call 19; refine (refright_any _ _).mono ?_; rintro e w' ⟨rfl, rfl⟩; rw [hk])
      all_goals go_ret
      exact ⟨_, _, rfl, Ints.nil _ _, Below.refl _ _⟩

theorem join_any (a : Option Addr) (n c : Nat) (ps : List Part) (w : World) (hp : Parts w a n c ps) (ht : tot ps ≤ 1099511627776) :
    Calls Try.prog 22 #[.slice a n c] w fun e w' => ∃ a' c', e = .returned (.slice a' (tot ps) c') ∧ w'.ownsRow w.heap.size 5 1 (.slice a' (tot ps) c') (tot ps) ((cat ps).map (Value.int .u8)) ∧ Below w.heap.size w w' := by
  have HP := Lib.hid hp
  clear hp
  go_enter Try.func22, Try.ntmps22
  go_wp2_with (go_at_call 28; refine (concat_any _ _ _ _ _ HP.out ht).mono ?_; rintro e w' ⟨v, rfl, hown, hb⟩; obtain ⟨a', c', hv, _⟩ := Sl.own hown; subst hv; have HO := Lib.hid hown; have HB := Lib.hid hb; clear hown hb)
  go_ret
  exact ⟨_, _, rfl, HO.out, HB.out⟩

set_option maxHeartbeats 4000000 in
theorem refjoin_any (a : Option Addr) (n c : Nat) (ps : List Part) (w : World) (hp : Parts w a n c ps) (ht : tot ps ≤ 1099511627776) :
    Calls Try.prog 23 #[.slice a n c] w fun e w' => ∃ a' c', e = .returned (.slice a' (tot ps) c') ∧ w'.ownsRow w.heap.size 5 1 (.slice a' (tot ps) c') (tot ps) ((cat ps).map (Value.int .u8)) ∧ Below w.heap.size w w' := by
  obtain ⟨i0, hi, hz0, hz1, hz2⟩ := info_parts info_u8
  have hc1 : n ≤ c ∧ c ≤ 9223372036854775807 := ⟨hp.1.2.1, hp.1.2.2.1⟩
  have L1 := Lib.hid hp.len
  have HP := Lib.hid hp
  have hcl := hp.cells
  clear hp
  rcases hcl with ⟨rfl, rfl⟩ | ⟨b1, o1, rfl, hb1, hn0, hcx⟩
  · go_enter Try.func23, Try.ntmps23
    go_wp2
    go_rounds 1
    all_goals go_ret
    all_goals exact ⟨none, 0, rfl, World.ownsRow_nil _ _ _ _, Below.refl _ _⟩
  · have HX := Lib.hid hcx
    clear hcx
    go_enter Try.func23, Try.ntmps23
    go_wp2
    go_loopw [3, 4] (fun v i wr => ∃ k : Nat, k ≤ n ∧ i = .int .i64 k ∧ ∃ a' c', v = .slice a' (tot (ps.take k)) c' ∧ wr.ownsRow w.heap.size 5 1 v (tot (ps.take k)) ((cat (ps.take k)).map (Value.int .u8)) ∧ Below w.heap.size w wr) (fun _ i _ => n - (intOf i).toNat)
    case atStart => exact ⟨0, Nat.zero_le _, rfl, none, 0, rfl, World.ownsRow_nil _ _ _ _, Below.refl _ _⟩
    case round =>
      obtain ⟨k, hk, rfl, a', c', rfl, hown, hbw⟩ := hrel
      have HO := Lib.hid hown
      have HWr := Lib.hid hbw
      have hle := tot_take_le ps k
      have hszr : w.heap.size ≤ wr.heap.size := hbw.size
      clear hown hbw
      by_cases hlt : k < n
      · have hcell : wr.cell? ⟨b1, o1 + k, none⟩ = some (.slice (prt ps k).a (prt ps k).n (prt ps k).c) := (HWr.out.cell (p := ⟨b1, o1 + k, none⟩) hb1).trans (HX.out k hlt)
        have hle2 := part_le (ps := ps) (k := k) (by rw [L1.out]; exact hlt)
        have hst := Lib.hid (tot_take (ps := ps) (k := k) (by rw [L1.out]; exact hlt))
        have hsc := Lib.hid (cat_take (ps := ps) (k := k) (by rw [L1.out]; exact hlt))
        have HS := Lib.hid (((HP.out.2 _ (prt_mem (by rw [L1.out]; exact hlt))).1).below HWr.out)
        go_wp2_with (at_builtin; refine append_own_any _ rfl _ _ 22 rfl w.heap.size 5 i0 (.int .u8 0) 1 Try.underlying22 hi hz0 hz1 hz2 rfl _ _ _ rfl HO.out _ _ _ ((prt ps k).zs.map (Value.int .u8)) rfl HS.out (ints_oneCell _ _) (by unfold maxLen; omega) (by omega) (by omega) ?_; intro v' w2 HO2 hgrow)
        have HW2 := Lib.hid (HWr.out.grown hgrow.out (by omega) (fun k' hk' => (HO.out.lt k' hk').1))
        have hown' := HO2.out
        rw [← List.map_append, ← hsc.out, ← hst.out] at hown'
        obtain ⟨a3, c3, hv3, _⟩ := Sl.own hown'
        subst hv3
        have HO3 := Lib.hid hown'
        clear hgrow HO HWr HO2 hown'
        go_wp2
        go_roundw
        case rel => exact ⟨k + 1, by omega, by go_num, a3, c3, rfl, HO3.out, HW2.out⟩
        case measure => simp [intOf]; omega
      · have he : Hid (ps.take k = ps) := List.take_of_length_le (by rw [L1.out]; omega)
        rw [he.out] at HO ⊢
        clear hle he
        go_wp2
        go_ret
        exact ⟨_, _, rfl, HO.out, HWr.out⟩

end Go.Proofs.Ytoldkoeijgnflaa

/- The walks of WireNumbers and WirePuts. -/
import Derived.Test.YtoldkoeijgnflaaWawake
namespace Go.Proofs.Ytoldkoeijgnflaa
open Go.RowKit

theorem be_num {m : Nat} {ys : List Int} (hm : m = 1 ∨ m = 2 ∨ m = 4) (hl : ys.length = m) (hb : Byt ys) : be m (num ys) = ys := by
  rcases hm with rfl | rfl | rfl
  · obtain ⟨a, rfl⟩ := List.length_eq_one_iff.1 hl
    have h1 := hb a (by simp)
    simp [be, be4, num]; omega
  · match ys, hl with
    | [a, b], _ =>
      have h1 := hb a (by simp)
      have h2 := hb b (by simp)
      simp [be, be4, num]; omega
  · match ys, hl with
    | [a, b, c, d], _ =>
      have h1 := hb a (by simp)
      have h2 := hb b (by simp)
      have h3 := hb c (by simp)
      have h4 := hb d (by simp)
      simp [be, be4, num]; omega
theorem num_be {m : Nat} {x : Int} (hm : m = 1 ∨ m = 2 ∨ m = 4) : num (be m x) = x % 256 ^ m := by
  rcases hm with rfl | rfl | rfl <;> simp [be, be4, num] <;> omega
theorem putL_numsL {m : Nat} (hm : m = 1 ∨ m = 2 ∨ m = 4) {zs : List Int} (hb : Byt zs) : ∀ N, N * m ≤ zs.length → putL m (numsL zs m N) = zs.take (N * m) := by
  intro N
  induction N with
  | zero => intro _; simp [putL, numsL]
  | succ N ih =>
    intro h
    rw [Nat.add_mul, Nat.one_mul] at h ⊢
    have h2 := ih (by omega)
    have h3 : numsL zs m (N + 1) = numsL zs m N ++ [numAt zs m N] := by simp [numsL, List.range_succ]
    rw [h3, putL_snoc, h2]
    unfold numAt
    rw [be_num hm (by rw [List.length_take, List.length_drop]; omega) ((hb.drop _).take _), List.take_add]
theorem putZ_numsZ {k : Int} {zs : List Int} (hk : rightB k = true) (h0 : zs.length % k.toNat = 0) (hb : Byt zs) : putZ k (numsZ k zs) = zs := by
  have hk3 := right_cases hk
  unfold putZ numsZ
  rw [if_pos hk, if_pos ⟨hk, h0⟩]
  have hd : zs.length / k.toNat * k.toNat = zs.length := Nat.div_mul_cancel (Nat.dvd_of_mod_eq_zero h0)
  rw [putL_numsL (by omega) hb _ (by omega), hd, List.take_length]
theorem numsL_putL {m : Nat} (hm : m = 1 ∨ m = 2 ∨ m = 4) {xs : List Int} : numsL (putL m xs) m xs.length = xs.map (· % 256 ^ m) := by
  apply List.ext_getElem
  · simp [numsL]
  · intro j h1 h2
    simp only [List.length_map] at h2
    have hs : putL m xs = putL m (xs.take j) ++ (be m xs[j] ++ putL m (xs.drop (j + 1))) := by
      calc putL m xs = putL m (xs.take j ++ (xs[j] :: xs.drop (j + 1))) := by rw [← List.drop_eq_getElem_cons h2, List.take_append_drop]
        _ = _ := by unfold putL; rw [List.flatMap_append, List.flatMap_cons]
    have hl : (putL m (xs.take j)).length = j * m := by rw [putL_length (by omega), List.length_take, Nat.min_eq_left (by omega)]
    have hl2 := be_length (m := m) (by omega) xs[j]
    simp only [numsL, List.getElem_map, List.getElem_range, numAt]
    rw [hs, List.drop_left' hl, List.take_left' hl2, num_be hm]
theorem numsZ_putZ {k : Int} {xs : List Int} (hk : rightB k = true) : numsZ k (putZ k xs) = xs.map (· % 256 ^ k.toNat) := by
  have hk3 := right_cases hk
  unfold putZ numsZ
  have hl : (putL k.toNat xs).length = xs.length * k.toNat := putL_length (by omega) xs
  rw [if_pos hk, if_pos ⟨hk, by rw [hl]; exact Nat.mul_mod_left _ _⟩, hl, Nat.mul_div_cancel _ (by omega), numsL_putL (by omega)]
theorem putZ_byt (k : Int) (xs : List Int) : Byt (putZ k xs) := by
  unfold putZ; split
  · exact putL_byt _ _
  · intro z hz; simp at hz
theorem putZ_le {k : Int} {xs : List Int} : (putZ k xs).length ≤ xs.length * 4 := by
  unfold putZ; split
  · rename_i h
    have := right_cases h
    rw [putL_length (by omega)]
    exact Nat.mul_le_mul_left _ (by omega)
  · simp
theorem num_u32 {m : Nat} {zs : List Int} (h : zs.length ≤ m) (hm : m ≤ 4) (hb : Byt zs) : 0 ≤ num zs ∧ num zs ≤ 4294967295 := by
  have h1 := num_bd zs.length zs rfl hb
  have h2 : zs.length = 0 ∨ zs.length = 1 ∨ zs.length = 2 ∨ zs.length = 3 ∨ zs.length = 4 := by omega
  rcases h2 with h2 | h2 | h2 | h2 | h2 <;> rw [h2] at h1 <;> simp at h1 <;> omega
theorem numsZ_u32 {k : Int} {zs : List Int} (hb : Byt zs) : ∀ x ∈ numsZ k zs, 0 ≤ x ∧ x ≤ 4294967295 := by
  intro x hx
  unfold numsZ at hx
  split at hx
  · rename_i h
    have h3 := right_cases h.1
    obtain ⟨j, _, rfl⟩ := List.mem_map.1 hx
    exact num_u32 (m := k.toNat) (by rw [List.length_take]; omega) (by omega) ((hb.drop _).take _)
  · simp at hx
theorem numsZ_le {k : Int} {zs : List Int} : (numsZ k zs).length ≤ zs.length := by
  unfold numsZ; split
  · rw [numsL_length]; exact Nat.div_le_self _ _
  · simp

set_option maxHeartbeats 4000000 in
theorem walk_WireNumbers (k : Int) (a : Option Addr) (n c : Nat) (zs : List Int) (w : World) (hx : Ints .u8 w a n c zs) (hb : Byt zs) :
    Calls Try.prog 4 #[.int .i64 k, .slice a n c] w fun e w' => e = .returned (.bool true) ∧ Below w.heap.size w w' := by
  have hc := hx.cap
  have hl := hx.len
  have HX := Lib.hid hx
  clear hx
  by_cases hbig : 1000 < n
  · go_enter Try.func4, Try.ntmps4
    go_wp2_with fail
    refine (awake_any _).mono ?_
    rintro e w1 ⟨rfl, hb1⟩
    have HB1 := Lib.hid hb1
    clear hb1
    go_wp2_with fail
    refine (awake_any _).mono ?_
    rintro e w2 ⟨rfl, hb2⟩
    have HB2 := Lib.hid (HB1.out.trans (hb2.mono HB1.out.size))
    clear hb2
    go_wp2
    go_ret
    exact ⟨rfl, HB2.out⟩
  · have hnl := numsZ_le (k := k) (zs := zs)
    have HU := Lib.hid (numsZ_u32 (k := k) hb)
    obtain ⟨ns, hns⟩ : ∃ ns, ns = numsZ k zs := ⟨_, rfl⟩
    obtain ⟨N, hN⟩ : ∃ N, N = ns.length := ⟨_, rfl⟩
    have HN := Lib.hid hns
    have HNN := Lib.hid hN
    have hN2 : N ≤ 1000 := by rw [hN, hns]; omega
    clear hns hN hnl
    have hpz : rightB k = true → n % k.toNat = 0 → putZ k ns = zs := fun h1 h2 => by rw [HN.out]; exact putZ_numsZ h1 (by rw [hl]; exact h2) hb
    have HPZ := Lib.hid hpz
    have HL := Lib.hid hl
    clear hpz hl
    go_enter Try.func4, Try.ntmps4
    go_wp2_with fail
    refine (awake_any _).mono ?_
    rintro e w1 ⟨rfl, hb1⟩
    have HB1 := Lib.hid hb1
    clear hb1
    go_wp2_with fail
    refine (numbers_any k a n c zs _ (HX.out.below HB1.out) hb (by omega)).mono ?_
    rintro e w2 ⟨a2, c2, rfl, hi, hb2⟩
    rw [← HN.out, ← HNN.out] at hi ⊢
    have HI2 := Lib.hid hi
    have HB2 := Lib.hid (HB1.out.trans (hb2.mono HB1.out.size))
    clear hi hb2
    go_wp2_with fail
    refine (refnumbers_any k a n c zs _ (HX.out.below HB2.out) hb (by omega)).mono ?_
    rintro e w3 ⟨a3, c3, rfl, hi, hb3⟩
    rw [← HN.out, ← HNN.out] at hi ⊢
    have HI3 := Lib.hid hi
    have HI2' := Lib.hid (HI2.out.below hb3)
    have HB3 := Lib.hid (HB2.out.trans (hb3.mono HB2.out.size))
    clear hi hb3 HI2
    go_wp2_with fail
    refine (equal_any _ _ _ _ _ _ _ _ _ HI2'.out HI3.out).mono ?_
    rintro e w4 ⟨rfl, hb4⟩
    rw [eqL_true rfl]
    have HI4 := Lib.hid (HI2'.out.below hb4)
    have HB4 := Lib.hid (HB3.out.trans (hb4.mono HB3.out.size))
    clear hb4 HI2' HI3
    go_wp2_with fail
    refine (refright_any _ _).mono ?_
    rintro e w' ⟨rfl, rfl⟩
    cases hk : rightB k with
    | false =>
      go_wp2
      go_ret
      exact ⟨rfl, HB4.out⟩
    | true =>
      have hk3 := right_cases hk
      obtain ⟨m, rfl⟩ : ∃ m : Nat, k = m := ⟨k.toNat, by omega⟩
      have hm : 1 ≤ m ∧ m ≤ 4 := by omega
      by_cases h0 : n % m = 0
      · have d0 : ((n : Int) % (m : Int) != 0) = false := by
          have : ((n : Int) % (m : Int)) = ((n % m : Nat) : Int) := by simp
          rw [this, h0]; rfl
        have hz := HPZ.out hk h0
        have HZ := Lib.hid hz
        clear hk3 h0 hz
        go_wp2_with fail
        refine (put_any _ _ _ _ ns _ HI4.out (by rw [HN.out]; exact HU.out) (by omega)).mono ?_
        rintro e w5 ⟨a5, c5, rfl, hown, hb5⟩
        rw [HZ.out, HL.out] at hown ⊢
        have HO5 := Lib.hid (ints_own hown)
        have HB5 := Lib.hid (HB4.out.trans (hb5.mono HB4.out.size))
        clear hown hb5 HI4
        go_wp2_with fail
        refine (same_any _ _ _ _ _ _ _ _ _ HO5.out (HX.out.below HB5.out)).mono ?_
        rintro e w6 ⟨rfl, hb6⟩
        rw [eqL_true rfl]
        have HB6 := Lib.hid (HB5.out.trans (hb6.mono HB5.out.size))
        clear hb6
        go_wp2
        go_ret
        exact ⟨by simp, HB6.out⟩
      · clear hk3
        go_wp2
        go_ret
        exact ⟨by simp, HB4.out⟩

theorem nth_map_mod {xs : List Int} {j : Nat} {m : Int} (h : j < xs.length) : nth (xs.map (· % m)) j = nth xs j % m := by
  rw [nth_lt (by simpa using h), nth_lt h]; simp

set_option maxHeartbeats 4000000 in
theorem walk_WirePuts (k : Int) (a : Option Addr) (n c : Nat) (xs : List Int) (w : World) (hx : Ints .u32 w a n c xs) (hr : ∀ x ∈ xs, 0 ≤ x ∧ x ≤ 4294967295) :
    Calls Try.prog 5 #[.int .i64 k, .slice a n c] w fun e w' => e = .returned (.bool true) ∧ Below w.heap.size w w' := by
  have hc := hx.cap
  have hl := hx.len
  have HX := Lib.hid hx
  by_cases hbig : 200 < n
  · clear hx
    go_enter Try.func5, Try.ntmps5
    go_wp2_with fail
    refine (awake_any _).mono ?_
    rintro e w1 ⟨rfl, hb1⟩
    have HB1 := Lib.hid hb1
    clear hb1
    go_wp2_with fail
    refine (awake_any _).mono ?_
    rintro e w2 ⟨rfl, hb2⟩
    have HB2 := Lib.hid (HB1.out.trans (hb2.mono HB1.out.size))
    clear hb2
    go_wp2
    go_ret
    exact ⟨rfl, HB2.out⟩
  · have hpl := putZ_le (k := k) (xs := xs)
    obtain ⟨ps, hps⟩ : ∃ ps, ps = putZ k xs := ⟨_, rfl⟩
    obtain ⟨N, hN⟩ : ∃ N, N = ps.length := ⟨_, rfl⟩
    have HP := Lib.hid hps
    have HNN := Lib.hid hN
    have hN2 : N ≤ 800 := by rw [hN, hps]; omega
    have HPB := Lib.hid (show Byt ps by rw [hps]; exact putZ_byt k xs)
    have HNZ := Lib.hid (show rightB k = true → numsZ k ps = xs.map (· % 256 ^ k.toNat) from fun h => by rw [hps]; exact numsZ_putZ h)
    have HN0 := Lib.hid (show rightB k = false → N = 0 from fun h => by rw [hN, hps]; unfold putZ; rw [if_neg (by simp [h])]; rfl)
    have HR := Lib.hid hr
    have HL := Lib.hid hl
    clear hps hN hpl hr hl
    go_enter Try.func5, Try.ntmps5
    go_wp2_with fail
    refine (awake_any _).mono ?_
    rintro e w1 ⟨rfl, hb1⟩
    have HB1 := Lib.hid hb1
    clear hb1
    go_wp2_with fail
    refine (put_any k a n c xs _ (HX.out.below HB1.out) HR.out (by omega)).mono ?_
    rintro e w2 ⟨a2, c2, rfl, hown, hb2⟩
    rw [← HP.out, ← HNN.out] at hown ⊢
    have HI2 := Lib.hid (ints_own hown)
    have HB2 := Lib.hid (HB1.out.trans (hb2.mono HB1.out.size))
    clear hown hb2
    go_wp2_with fail
    refine (refput_any k a n c xs _ (HX.out.below HB2.out) HR.out (by omega)).mono ?_
    rintro e w3 ⟨a3, c3, rfl, hown, hb3⟩
    rw [← HP.out, ← HNN.out] at hown ⊢
    have HI3 := Lib.hid (ints_own hown)
    have HI2' := Lib.hid (HI2.out.below hb3)
    have HB3 := Lib.hid (HB2.out.trans (hb3.mono HB2.out.size))
    clear hown hb3 HI2
    go_wp2_with fail
    refine (same_any _ _ _ _ _ _ _ _ _ HI2'.out HI3.out).mono ?_
    rintro e w4 ⟨rfl, hb4⟩
    rw [eqL_true rfl]
    have HI4 := Lib.hid (HI2'.out.below hb4)
    have HB4 := Lib.hid (HB3.out.trans (hb4.mono HB3.out.size))
    clear hb4 HI2' HI3
    go_wp2_with fail
    refine (refright_any _ _).mono ?_
    rintro e w' ⟨rfl, rfl⟩
    cases hk : rightB k with
    | false =>
      have h0 := HN0.out hk
      subst h0
      go_wp2
      go_ret
      exact ⟨rfl, HB4.out⟩
    | true =>
      go_wp2_with fail
      refine (numbers_any k _ _ _ ps _ HI4.out HPB.out (by omega)).mono ?_
      rintro e w5 ⟨a5, c5, rfl, hi, hb5⟩
      rw [HNZ.out hk] at hi ⊢
      rw [List.length_map, HL.out] at hi ⊢
      obtain ⟨b5, o5, ha5, hcx5⟩ := hi.loc
      have HB5 := Lib.hid (HB4.out.trans (hb5.mono HB4.out.size))
      obtain ⟨b1, o1, ha1, hcx1⟩ := (HX.out.below HB5.out).loc
      have H5 := Lib.hid hcx5
      have H1 := Lib.hid hcx1
      clear hi hb5 HI4 hcx5 hcx1 hx
      have hk3 := right_cases hk
      rcases ha1 with rfl | hn0
      · rcases ha5 with rfl | hn0
        · rcases hk3 with rfl | rfl | rfl
          · go_wp2
            go_loopw [7] (fun i wr => ∃ j : Nat, j ≤ n ∧ i = .int .i64 j ∧ Below w5.heap.size w5 wr) (fun i _ => n - (intOf i).toNat)
            case atStart => exact ⟨0, Nat.zero_le _, rfl, Below.refl _ _⟩
            case round =>
              obtain ⟨j, hj, rfl, hbw⟩ := hrel
              have HW := Lib.hid hbw
              by_cases hlt : j < n
              · have h5 := (hbw.cell (p := ⟨b5, o5 + j, none⟩) (H5.out j hlt).1).trans (H5.out j hlt).2
                have h1 := (hbw.cell (p := ⟨b1, o1 + j, none⟩) (H1.out j hlt).1).trans (H1.out j hlt).2
                have hxb := HR.out _ (nth_mem (zs := xs) (k := j) (by rw [HL.out]; exact hlt))
                rw [nth_map_mod (by rw [HL.out]; exact hlt)] at h5
                obtain ⟨x, hxe⟩ : ∃ x, x = nth xs j := ⟨_, rfl⟩
                rw [← hxe] at h5 h1 hxb
                have e4 : x % 256 ^ (1 : Int).toNat = x % 256 := by simp
                rw [e4] at h5
                have q1 : IntKind.i64.wrap 8 = 8 := by decide
                have q2 : IntKind.u64.wrap 8 = 8 := by decide
                have q3 : IntKind.u32.wrap 256 = 256 := by decide
                have q4 : x.tmod 256 = x % 256 := Int.tmod_eq_emod_of_nonneg hxb.1
                have d1 : decide ((1 : Int) < 4) = true := by decide
                clear hbw hxe
                go_wp2
                go_quiet (fail)
                go_wp2
                go_roundw
                case rel => exact ⟨j + 1, by omega, by go_num, below_drewN HW.out _⟩
                case measure => simp [intOf]; omega
              · clear hbw
                go_wp2
                go_ret
                exact ⟨rfl, HB5.out.trans (HW.out.mono HB5.out.size)⟩
          · go_wp2
            go_loopw [7] (fun i wr => ∃ j : Nat, j ≤ n ∧ i = .int .i64 j ∧ Below w5.heap.size w5 wr) (fun i _ => n - (intOf i).toNat)
            case atStart => exact ⟨0, Nat.zero_le _, rfl, Below.refl _ _⟩
            case round =>
              obtain ⟨j, hj, rfl, hbw⟩ := hrel
              have HW := Lib.hid hbw
              by_cases hlt : j < n
              · have h5 := (hbw.cell (p := ⟨b5, o5 + j, none⟩) (H5.out j hlt).1).trans (H5.out j hlt).2
                have h1 := (hbw.cell (p := ⟨b1, o1 + j, none⟩) (H1.out j hlt).1).trans (H1.out j hlt).2
                have hxb := HR.out _ (nth_mem (zs := xs) (k := j) (by rw [HL.out]; exact hlt))
                rw [nth_map_mod (by rw [HL.out]; exact hlt)] at h5
                obtain ⟨x, hxe⟩ : ∃ x, x = nth xs j := ⟨_, rfl⟩
                rw [← hxe] at h5 h1 hxb
                have e4 : x % 256 ^ (2 : Int).toNat = x % 65536 := by simp
                rw [e4] at h5
                have q1 : IntKind.i64.wrap 16 = 16 := by decide
                have q2 : IntKind.u64.wrap 16 = 16 := by decide
                have q3 : IntKind.u32.wrap 65536 = 65536 := by decide
                have q4 : x.tmod 65536 = x % 65536 := Int.tmod_eq_emod_of_nonneg hxb.1
                have d1 : decide ((2 : Int) < 4) = true := by decide
                clear hbw hxe
                go_wp2
                go_quiet (fail)
                go_wp2
                go_roundw
                case rel => exact ⟨j + 1, by omega, by go_num, below_drewN HW.out _⟩
                case measure => simp [intOf]; omega
              · clear hbw
                go_wp2
                go_ret
                exact ⟨rfl, HB5.out.trans (HW.out.mono HB5.out.size)⟩
          · go_wp2
            go_loopw [7] (fun i wr => ∃ j : Nat, j ≤ n ∧ i = .int .i64 j ∧ Below w5.heap.size w5 wr) (fun i _ => n - (intOf i).toNat)
            case atStart => exact ⟨0, Nat.zero_le _, rfl, Below.refl _ _⟩
            case round =>
              obtain ⟨j, hj, rfl, hbw⟩ := hrel
              have HW := Lib.hid hbw
              by_cases hlt : j < n
              · have h5 := (hbw.cell (p := ⟨b5, o5 + j, none⟩) (H5.out j hlt).1).trans (H5.out j hlt).2
                have h1 := (hbw.cell (p := ⟨b1, o1 + j, none⟩) (H1.out j hlt).1).trans (H1.out j hlt).2
                have hxb := HR.out _ (nth_mem (zs := xs) (k := j) (by rw [HL.out]; exact hlt))
                rw [nth_map_mod (by rw [HL.out]; exact hlt)] at h5
                obtain ⟨x, hxe⟩ : ∃ x, x = nth xs j := ⟨_, rfl⟩
                rw [← hxe] at h5 h1 hxb
                have e4 : x % 256 ^ (4 : Int).toNat = x := by simp; omega
                rw [e4] at h5
                have d1 : decide ((4 : Int) < 4) = false := by decide
                clear hbw hxe
                go_wp2
                go_quiet (fail)
                go_wp2
                go_roundw
                case rel => exact ⟨j + 1, by omega, by go_num, below_drewN HW.out _⟩
                case measure => simp [intOf]; omega
              · clear hbw
                go_wp2
                go_ret
                exact ⟨rfl, HB5.out.trans (HW.out.mono HB5.out.size)⟩
        · obtain rfl : n = 0 := by omega
          go_wp2
          go_rounds 1
          all_goals go_ret
          all_goals exact ⟨rfl, HB5.out⟩
      · obtain rfl : n = 0 := by omega
        go_wp2
        go_rounds 1
        all_goals go_ret
        all_goals exact ⟨rfl, HB5.out⟩

end Go.Proofs.Ytoldkoeijgnflaa

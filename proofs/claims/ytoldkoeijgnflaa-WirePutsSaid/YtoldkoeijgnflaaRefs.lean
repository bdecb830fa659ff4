/- The references of package wire: Put, Numbers, Join; and slices.Equal. -/
import Derived.Test.YtoldkoeijgnflaaPut
import Derived.Test.YtoldkoeijgnflaaConcat
import Derived.Test.YtoldkoeijgnflaaNums2
namespace Go.Proofs.Ytoldkoeijgnflaa
open Go.RowKit

/-- slices.Equal -/
theorem equal_any (a b : Option Addr) (n c m d : Nat) (xs ys : List Int) (w : World) (hx : Ints .u32 w a n c xs) (hy : Ints .u32 w b m d ys) :
    Calls Try.prog 17 #[.slice a n c, .slice b m d] w fun e w' => e = .returned (.bool (eqL xs ys)) ∧ Below w.heap.size w w' := by
  have hl1 := hx.len
  have hl2 := hy.len
  have hc1 := hx.cap
  have hc2 := hy.cap
  by_cases hnm : n = m
  · subst hnm
    rcases hx.cells with ⟨rfl, rfl⟩ | ⟨b1, o1, rfl, hb1, hn, hcx⟩
    · obtain rfl : ys = [] := List.length_eq_zero_iff.1 hl2
      clear hx hy hl1 hl2
      go_enter Try.func17, Try.ntmps17
      go_wp2
      go_rounds 1
      all_goals go_ret
      all_goals exact ⟨rfl, Below.refl _ _⟩
    · rcases hy.cells with ⟨rfl, rfl⟩ | ⟨b2, o2, rfl, hb2, hn2, hcy⟩
      · omega
      · have HX := Lib.hid hcx
        have HY := Lib.hid hcy
        have L1 := Lib.hid hl1
        have L2 := Lib.hid hl2
        clear hx hy hcx hcy hl1 hl2
        go_enter Try.func17, Try.ntmps17
        go_wp2
        go_loopw [5, 13] (fun _ i wr => ∃ k : Nat, k ≤ n ∧ i = .int .i64 k ∧ (∀ j, j < k → nth xs j = nth ys j) ∧ ∃ q, wr = w.drewN q) (fun _ i _ => n - (intOf i).toNat)
        case atStart => exact ⟨0, Nat.zero_le _, rfl, fun j hj => absurd hj (by omega), 0, rfl⟩
        case round =>
          obtain ⟨k, hk, rfl, heq, q, rfl⟩ := hrel
          have HE := Lib.hid heq
          clear heq
          by_cases hlt : k < n
          · have h1 := HX.out k hlt
            have h2 := HY.out k hlt
            by_cases hv : nth xs k = nth ys k
            · have hv' : (nth xs k != nth ys k) = false := by simp [hv]
              have HV := Lib.hid hv
              clear hv
              go_wp2
              go_quiet (fail)
              go_wp2
              go_roundw
              case rel =>
                refine ⟨k + 1, by omega, by go_num, fun j hj => ?_, _, rfl⟩
                by_cases e : j = k
                · rw [e]; exact HV.out
                · exact HE.out j (by omega)
              case measure => simp [intOf]; omega
            · have hv' : (nth xs k != nth ys k) = true := by simp [hv]
              have HV := Lib.hid hv
              clear hv
              go_wp2
              go_quiet (fail)
              go_wp2
              go_ret
              have hne : xs ≠ ys := fun e => HV.out (by rw [e])
              exact ⟨ret_bool (eqL_false hne).symm, below_drewN (below_drewN (Below.refl _ _) _) _⟩
          · have hkn : k = n := by omega
            have HK := Lib.hid hkn
            clear hkn
            go_wp2
            go_ret
            have he : xs = ys := ext_nth (by rw [L1.out, L2.out]) (fun j hj => HE.out j (by rw [HK.out, ← L1.out]; exact hj))
            exact ⟨ret_bool (eqL_true he).symm, below_drewN (Below.refl _ _) _⟩
  · have hnm' : ((n : Int) != (m : Int)) = true := by simp; omega
    have hne : xs ≠ ys := fun e => hnm (by rw [← hl1, ← hl2, e])
    have HN := Lib.hid hne
    clear hx hy hl1 hl2 hne
    go_enter Try.func17, Try.ntmps17
    go_wp2
    go_ret
    exact ⟨ret_bool (eqL_false HN.out).symm, Below.refl _ _⟩

theorem info_u32' : (Try.prog.info? 32).map (fun i => (i.zero, i.size, i.bytes)) = some (some (.int .u32 0), 1, 4) := by kernel_rfl

set_option maxHeartbeats 4000000 in
theorem refput_1 (b1 o1 : Nat) (a : Option Addr) (n c : Nat) (xs : List Int) (w : World) (hcc : n ≤ c ∧ c ≤ 9223372036854775807) (hL : xs.length = n) (ha : a = some ⟨b1, o1, none⟩ ∨ n ≤ 0) (hcx : ∀ j, j < n → b1 < w.heap.size ∧ w.cell? ⟨b1, o1 + j, none⟩ = some (.int .u32 (nth xs j))) (hr : ∀ x ∈ xs, 0 ≤ x ∧ x ≤ 4294967295) (hn : n ≤ 1099511627776) :
    Calls Try.prog 21 #[.int .i64 1, .slice a n c] w fun e w' => ∃ a' c', e = .returned (.slice a' (n) c') ∧ w'.ownsRow w.heap.size 5 1 (.slice a' (n) c') (n) ((putL 1 xs).map (Value.int .u8)) ∧ Below w.heap.size w w' := by
  obtain ⟨i0, hi, hz0, hz1, hz2⟩ := info_parts info_u8
  have HC := Lib.hid hcx
  have HL := Lib.hid hL
  have HR := Lib.hid hr
  clear hcx hL hr
  rcases ha with rfl | hn0
  all_goals
    go_enter Try.func21, Try.ntmps21
    go_wp2_with (go_at_call 19; refine (refright_any _ _).mono ?_; rintro e w' ⟨rfl, rfl⟩; rw [show rightB 1 = true by decide])
    go_loopw [5, 6] (fun v i wr => ∃ j : Nat, j ≤ n ∧ i = .int .i64 j ∧ ∃ a' c', v = .slice a' (j) c' ∧ wr.ownsRow w.heap.size 5 1 v (j) ((putL 1 (xs.take j)).map (Value.int .u8)) ∧ Below w.heap.size w wr) (fun _ i _ => n - (intOf i).toNat)
    case atStart => exact ⟨0, Nat.zero_le _, rfl, none, 0, by simp, by simpa [putL] using World.ownsRow_nil _ _ _ _, Below.refl _ _⟩
    case round =>
      obtain ⟨j, hj, rfl, a', c', rfl, hown, hbw⟩ := hrel
      have HO := Lib.hid hown
      have HW := Lib.hid hbw
      have hszr : w.heap.size ≤ wr.heap.size := hbw.size
      clear hown
      by_cases hlt : j < n
      · try (exfalso; omega)
        all_goals
          have hcj := (hbw.cell (p := ⟨b1, o1 + j, none⟩) (HC.out j hlt).1).trans (HC.out j hlt).2
          have hst := Lib.hid (putL_take (m := 1) (xs := xs) (j := j) (by rw [HL.out]; exact hlt))
          have hxb := HR.out _ (nth_mem (zs := xs) (k := j) (by rw [HL.out]; exact hlt))
          obtain ⟨x, hxe⟩ : ∃ x, x = nth xs j := ⟨_, rfl⟩
          rw [← hxe] at hst hxb hcj
          clear hbw hxe
          go_wp2
          go_still_tail 23, (by kernel_rfl)
          change wpList _ _ _ _ _ wr.drew
          have HO1 : Hid (wr.drew.ownsRow w.heap.size 5 1 (.slice a' (j) c') (j) ((putL 1 (xs.take j)).map (Value.int .u8))) := HO.out
          have HW1 := Lib.hid HW.out.drew
          have hszr1 : w.heap.size ≤ wr.drew.heap.size := hszr
          obtain ⟨w2, hw2⟩ : ∃ w2, wr.drew = w2 := ⟨_, rfl⟩
          rw [hw2] at HO1 HW1 hszr1 ⊢
          clear hw2 HO HW hszr hcj
          have hsl : Sl (w2.alloc (.cells #[.int .u8 (x / 16777216), .int .u8 (x / 65536 % 256), .int .u8 (x / 256 % 256), .int .u8 (x % 256)] 5)) (some ⟨w2.heap.size, 3, none⟩) 1 1 ([x % 256].map (Value.int .u8)) := by
            have := (Sl.at w2 w2.heap.size [.int .u8 (x / 16777216), .int .u8 (x / 65536 % 256), .int .u8 (x / 256 % 256), .int .u8 (x % 256)] 5 4 rfl rfl (by omega)).sub (lo := 3) (hi := 4) (by omega) (by omega)
            simpa [Addr.add_lit] using this
          have hbe : Hid (be 1 x = [x % 256]) := by
            unfold Hid be be4
            simp
          have HSL := Lib.hid hsl
          clear hsl
          go_wp2_with (at_builtin; refine append_own_any _ rfl _ _ 22 rfl w.heap.size 5 i0 (.int .u8 0) 1 Try.underlying22 hi hz0 hz1 hz2 rfl (.slice a' (j) c') _ _ rfl (HO1.out.alloc _) _ _ _ _ rfl HSL.out (ints_oneCell .u8 [x % 256]) (by unfold maxLen; omega) (by omega) (by simp; omega) ?_; intro v' w3 hown1 hgrow)
          have hown' := hown1.out
          rw [← List.map_append, ← hbe.out, ← hst.out] at hown'
          obtain ⟨a3, c3, hv3, _⟩ := Sl.own hown'
          subst hv3
          have HO2 := Lib.hid hown'
          have HW2 := Lib.hid ((HW1.out.alloc hszr1 (.cells #[.int .u8 (x / 16777216), .int .u8 (x / 65536 % 256), .int .u8 (x / 256 % 256), .int .u8 (x % 256)] 5)).grown hgrow.out (by simp; omega) (fun k' hk' => (HO1.out.lt k' hk').1))
          clear hown' hown1 hgrow hbe hst HO1 HW1 HSL
          go_wp2
          go_roundw
          case rel => exact ⟨j + 1, by omega, by go_num, a3, c3, rfl, HO2.out, HW2.out⟩
          case measure => simp [intOf]; omega
      · have hjn : j = n := by omega
        subst hjn
        have hT : xs.take j = xs := List.take_of_length_le (by rw [HL.out]; omega)
        rw [hT] at HO
        clear hbw hT
        go_wp2
        go_ret
        exact ⟨_, _, rfl, HO.out, HW.out⟩

set_option maxHeartbeats 4000000 in
theorem refput_2 (b1 o1 : Nat) (a : Option Addr) (n c : Nat) (xs : List Int) (w : World) (hcc : n ≤ c ∧ c ≤ 9223372036854775807) (hL : xs.length = n) (ha : a = some ⟨b1, o1, none⟩ ∨ n ≤ 0) (hcx : ∀ j, j < n → b1 < w.heap.size ∧ w.cell? ⟨b1, o1 + j, none⟩ = some (.int .u32 (nth xs j))) (hr : ∀ x ∈ xs, 0 ≤ x ∧ x ≤ 4294967295) (hn : n ≤ 1099511627776) :
    Calls Try.prog 21 #[.int .i64 2, .slice a n c] w fun e w' => ∃ a' c', e = .returned (.slice a' (n * 2) c') ∧ w'.ownsRow w.heap.size 5 1 (.slice a' (n * 2) c') (n * 2) ((putL 2 xs).map (Value.int .u8)) ∧ Below w.heap.size w w' := by
  obtain ⟨i0, hi, hz0, hz1, hz2⟩ := info_parts info_u8
  have HC := Lib.hid hcx
  have HL := Lib.hid hL
  have HR := Lib.hid hr
  clear hcx hL hr
  rcases ha with rfl | hn0
  all_goals
    go_enter Try.func21, Try.ntmps21
    go_wp2_with (go_at_call 19; refine (refright_any _ _).mono ?_; rintro e w' ⟨rfl, rfl⟩; rw [show rightB 2 = true by decide])
    go_loopw [5, 6] (fun v i wr => ∃ j : Nat, j ≤ n ∧ i = .int .i64 j ∧ ∃ a' c', v = .slice a' (j * 2) c' ∧ wr.ownsRow w.heap.size 5 1 v (j * 2) ((putL 2 (xs.take j)).map (Value.int .u8)) ∧ Below w.heap.size w wr) (fun _ i _ => n - (intOf i).toNat)
    case atStart => exact ⟨0, Nat.zero_le _, rfl, none, 0, by simp, by simpa [putL] using World.ownsRow_nil _ _ _ _, Below.refl _ _⟩
    case round =>
      obtain ⟨j, hj, rfl, a', c', rfl, hown, hbw⟩ := hrel
      have HO := Lib.hid hown
      have HW := Lib.hid hbw
      have hszr : w.heap.size ≤ wr.heap.size := hbw.size
      clear hown
      by_cases hlt : j < n
      · try (exfalso; omega)
        all_goals
          have hcj := (hbw.cell (p := ⟨b1, o1 + j, none⟩) (HC.out j hlt).1).trans (HC.out j hlt).2
          have hst := Lib.hid (putL_take (m := 2) (xs := xs) (j := j) (by rw [HL.out]; exact hlt))
          have hxb := HR.out _ (nth_mem (zs := xs) (k := j) (by rw [HL.out]; exact hlt))
          obtain ⟨x, hxe⟩ : ∃ x, x = nth xs j := ⟨_, rfl⟩
          rw [← hxe] at hst hxb hcj
          clear hbw hxe
          go_wp2
          go_still_tail 23, (by kernel_rfl)
          change wpList _ _ _ _ _ wr.drew
          have HO1 : Hid (wr.drew.ownsRow w.heap.size 5 1 (.slice a' (j * 2) c') (j * 2) ((putL 2 (xs.take j)).map (Value.int .u8))) := HO.out
          have HW1 := Lib.hid HW.out.drew
          have hszr1 : w.heap.size ≤ wr.drew.heap.size := hszr
          obtain ⟨w2, hw2⟩ : ∃ w2, wr.drew = w2 := ⟨_, rfl⟩
          rw [hw2] at HO1 HW1 hszr1 ⊢
          clear hw2 HO HW hszr hcj
          have hsl : Sl (w2.alloc (.cells #[.int .u8 (x / 16777216), .int .u8 (x / 65536 % 256), .int .u8 (x / 256 % 256), .int .u8 (x % 256)] 5)) (some ⟨w2.heap.size, 2, none⟩) 2 2 ([x / 256 % 256, x % 256].map (Value.int .u8)) := by
            have := (Sl.at w2 w2.heap.size [.int .u8 (x / 16777216), .int .u8 (x / 65536 % 256), .int .u8 (x / 256 % 256), .int .u8 (x % 256)] 5 4 rfl rfl (by omega)).sub (lo := 2) (hi := 4) (by omega) (by omega)
            simpa [Addr.add_lit] using this
          have hbe : Hid (be 2 x = [x / 256 % 256, x % 256]) := by
            unfold Hid be be4
            simp
          have HSL := Lib.hid hsl
          clear hsl
          go_wp2_with (at_builtin; refine append_own_any _ rfl _ _ 22 rfl w.heap.size 5 i0 (.int .u8 0) 1 Try.underlying22 hi hz0 hz1 hz2 rfl (.slice a' (j * 2) c') _ _ rfl (HO1.out.alloc _) _ _ _ _ rfl HSL.out (ints_oneCell .u8 [x / 256 % 256, x % 256]) (by unfold maxLen; omega) (by omega) (by simp; omega) ?_; intro v' w3 hown1 hgrow)
          have hown' := hown1.out
          rw [← List.map_append, ← hbe.out, ← hst.out, show j * 2 + 2 = (j + 1) * 2 by omega] at hown'
          obtain ⟨a3, c3, hv3, _⟩ := Sl.own hown'
          subst hv3
          have HO2 := Lib.hid hown'
          have HW2 := Lib.hid ((HW1.out.alloc hszr1 (.cells #[.int .u8 (x / 16777216), .int .u8 (x / 65536 % 256), .int .u8 (x / 256 % 256), .int .u8 (x % 256)] 5)).grown hgrow.out (by simp; omega) (fun k' hk' => (HO1.out.lt k' hk').1))
          clear hown' hown1 hgrow hbe hst HO1 HW1 HSL
          go_wp2
          go_roundw
          case rel => exact ⟨j + 1, by omega, by go_num, a3, c3, rfl, HO2.out, HW2.out⟩
          case measure => simp [intOf]; omega
      · have hjn : j = n := by omega
        subst hjn
        have hT : xs.take j = xs := List.take_of_length_le (by rw [HL.out]; omega)
        rw [hT] at HO
        clear hbw hT
        go_wp2
        go_ret
        exact ⟨_, _, rfl, HO.out, HW.out⟩

set_option maxHeartbeats 4000000 in
theorem refput_4 (b1 o1 : Nat) (a : Option Addr) (n c : Nat) (xs : List Int) (w : World) (hcc : n ≤ c ∧ c ≤ 9223372036854775807) (hL : xs.length = n) (ha : a = some ⟨b1, o1, none⟩ ∨ n ≤ 0) (hcx : ∀ j, j < n → b1 < w.heap.size ∧ w.cell? ⟨b1, o1 + j, none⟩ = some (.int .u32 (nth xs j))) (hr : ∀ x ∈ xs, 0 ≤ x ∧ x ≤ 4294967295) (hn : n ≤ 1099511627776) :
    Calls Try.prog 21 #[.int .i64 4, .slice a n c] w fun e w' => ∃ a' c', e = .returned (.slice a' (n * 4) c') ∧ w'.ownsRow w.heap.size 5 1 (.slice a' (n * 4) c') (n * 4) ((putL 4 xs).map (Value.int .u8)) ∧ Below w.heap.size w w' := by
  obtain ⟨i0, hi, hz0, hz1, hz2⟩ := info_parts info_u8
  have HC := Lib.hid hcx
  have HL := Lib.hid hL
  have HR := Lib.hid hr
  clear hcx hL hr
  rcases ha with rfl | hn0
  all_goals
    go_enter Try.func21, Try.ntmps21
    go_wp2_with (go_at_call 19; refine (refright_any _ _).mono ?_; rintro e w' ⟨rfl, rfl⟩; rw [show rightB 4 = true by decide])
    go_loopw [5, 6] (fun v i wr => ∃ j : Nat, j ≤ n ∧ i = .int .i64 j ∧ ∃ a' c', v = .slice a' (j * 4) c' ∧ wr.ownsRow w.heap.size 5 1 v (j * 4) ((putL 4 (xs.take j)).map (Value.int .u8)) ∧ Below w.heap.size w wr) (fun _ i _ => n - (intOf i).toNat)
    case atStart => exact ⟨0, Nat.zero_le _, rfl, none, 0, by simp, by simpa [putL] using World.ownsRow_nil _ _ _ _, Below.refl _ _⟩
    case round =>
      obtain ⟨j, hj, rfl, a', c', rfl, hown, hbw⟩ := hrel
      have HO := Lib.hid hown
      have HW := Lib.hid hbw
      have hszr : w.heap.size ≤ wr.heap.size := hbw.size
      clear hown
      by_cases hlt : j < n
      · try (exfalso; omega)
        all_goals
          have hcj := (hbw.cell (p := ⟨b1, o1 + j, none⟩) (HC.out j hlt).1).trans (HC.out j hlt).2
          have hst := Lib.hid (putL_take (m := 4) (xs := xs) (j := j) (by rw [HL.out]; exact hlt))
          have hxb := HR.out _ (nth_mem (zs := xs) (k := j) (by rw [HL.out]; exact hlt))
          obtain ⟨x, hxe⟩ : ∃ x, x = nth xs j := ⟨_, rfl⟩
          rw [← hxe] at hst hxb hcj
          clear hbw hxe
          go_wp2
          go_still_tail 23, (by kernel_rfl)
          change wpList _ _ _ _ _ wr.drew
          have HO1 : Hid (wr.drew.ownsRow w.heap.size 5 1 (.slice a' (j * 4) c') (j * 4) ((putL 4 (xs.take j)).map (Value.int .u8))) := HO.out
          have HW1 := Lib.hid HW.out.drew
          have hszr1 : w.heap.size ≤ wr.drew.heap.size := hszr
          obtain ⟨w2, hw2⟩ : ∃ w2, wr.drew = w2 := ⟨_, rfl⟩
          rw [hw2] at HO1 HW1 hszr1 ⊢
          clear hw2 HO HW hszr hcj
          have hsl : Sl (w2.alloc (.cells #[.int .u8 (x / 16777216), .int .u8 (x / 65536 % 256), .int .u8 (x / 256 % 256), .int .u8 (x % 256)] 5)) (some ⟨w2.heap.size, 0, none⟩) 4 4 ([x / 16777216, x / 65536 % 256, x / 256 % 256, x % 256].map (Value.int .u8)) := by
            have := (Sl.at w2 w2.heap.size [.int .u8 (x / 16777216), .int .u8 (x / 65536 % 256), .int .u8 (x / 256 % 256), .int .u8 (x % 256)] 5 4 rfl rfl (by omega)).sub (lo := 0) (hi := 4) (by omega) (by omega)
            simpa [Addr.add_lit] using this
          have hbe : Hid (be 4 x = [x / 16777216, x / 65536 % 256, x / 256 % 256, x % 256]) := by
            unfold Hid be be4
            simp
            omega
          have HSL := Lib.hid hsl
          clear hsl
          go_wp2_with (at_builtin; refine append_own_any _ rfl _ _ 22 rfl w.heap.size 5 i0 (.int .u8 0) 1 Try.underlying22 hi hz0 hz1 hz2 rfl (.slice a' (j * 4) c') _ _ rfl (HO1.out.alloc _) _ _ _ _ rfl HSL.out (ints_oneCell .u8 [x / 16777216, x / 65536 % 256, x / 256 % 256, x % 256]) (by unfold maxLen; omega) (by omega) (by simp; omega) ?_; intro v' w3 hown1 hgrow)
          have hown' := hown1.out
          rw [← List.map_append, ← hbe.out, ← hst.out, show j * 4 + 4 = (j + 1) * 4 by omega] at hown'
          obtain ⟨a3, c3, hv3, _⟩ := Sl.own hown'
          subst hv3
          have HO2 := Lib.hid hown'
          have HW2 := Lib.hid ((HW1.out.alloc hszr1 (.cells #[.int .u8 (x / 16777216), .int .u8 (x / 65536 % 256), .int .u8 (x / 256 % 256), .int .u8 (x % 256)] 5)).grown hgrow.out (by simp; omega) (fun k' hk' => (HO1.out.lt k' hk').1))
          clear hown' hown1 hgrow hbe hst HO1 HW1 HSL
          go_wp2
          go_roundw
          case rel => exact ⟨j + 1, by omega, by go_num, a3, c3, rfl, HO2.out, HW2.out⟩
          case measure => simp [intOf]; omega
      · have hjn : j = n := by omega
        subst hjn
        have hT : xs.take j = xs := List.take_of_length_le (by rw [HL.out]; omega)
        rw [hT] at HO
        clear hbw hT
        go_wp2
        go_ret
        exact ⟨_, _, rfl, HO.out, HW.out⟩

theorem refput_any (k : Int) (a : Option Addr) (n c : Nat) (xs : List Int) (w : World) (hx : Ints .u32 w a n c xs) (hr : ∀ x ∈ xs, 0 ≤ x ∧ x ≤ 4294967295) (hn : n ≤ 1099511627776) :
    Calls Try.prog 21 #[.int .i64 k, .slice a n c] w fun e w' => ∃ a' c', e = .returned (.slice a' (putZ k xs).length c') ∧ w'.ownsRow w.heap.size 5 1 (.slice a' (putZ k xs).length c') (putZ k xs).length ((putZ k xs).map (Value.int .u8)) ∧ Below w.heap.size w w' := by
  unfold putZ
  cases hk : rightB k with
  | false =>
    clear hx
    go_enter Try.func21, Try.ntmps21
    go_wp2_with (go_at_call 19; refine (refright_any _ _).mono ?_; rintro e w' ⟨rfl, rfl⟩; rw [hk])
    go_ret
    exact ⟨none, 0, rfl, by simpa using World.ownsRow_nil _ _ _ _, Below.refl _ _⟩
  | true =>
    obtain ⟨b1, o1, ha, hcx⟩ := hx.loc
    have hL := hx.len
    have hcc := hx.cap
    rw [if_pos rfl]
    rcases right_cases hk with rfl | rfl | rfl
    · rw [putL_length (by decide), hL, show n * Int.toNat 1 = n by simp]; exact refput_1 b1 o1 a n c xs w hcc hL ha hcx hr hn
    · rw [putL_length (by decide), hL]; exact refput_2 b1 o1 a n c xs w hcc hL ha hcx hr hn
    · rw [putL_length (by decide), hL]; exact refput_4 b1 o1 a n c xs w hcc hL ha hcx hr hn

end Go.Proofs.Ytoldkoeijgnflaa

/- wire.Put. -/
import Derived.Test.YtmncmbbgdkkgaaaGreatDoorANums2
namespace Go.Proofs.YtmncmbbgdkkgaaaGreatDoor
set_option maxRecDepth 100000
open Go.RowKit

/-- the four bytes of a number -/
theorem info_u8 : (Tryz.prog.info? 5).map (fun i => (i.zero, i.size, i.bytes)) = some (some (.int .u8 0), 1, 1) := by kernel_rfl
def be4 (x : Int) : List Int := [x / 16777216 % 256, x / 65536 % 256, x / 256 % 256, x % 256]
/-- the last m of them -/
def be (m : Nat) (x : Int) : List Int := (be4 x).drop (4 - m)
theorem be_length {m : Nat} (hm : m ≤ 4) (x : Int) : (be m x).length = m := by unfold be be4; simp; omega
theorem be_byt (m : Nat) (x : Int) : Byt (be m x) := by
  refine Byt.drop ?_ _
  intro z hz
  simp only [be4, List.mem_cons, List.not_mem_nil, or_false] at hz
  omega
/-- the bytes of numbers -/
def putL (m : Nat) (xs : List Int) : List Int := xs.flatMap (be m)
theorem putL_snoc (m : Nat) (xs : List Int) (x : Int) : putL m (xs ++ [x]) = putL m xs ++ be m x := by simp [putL]
theorem putL_length {m : Nat} (hm : m ≤ 4) (xs : List Int) : (putL m xs).length = xs.length * m := by
  induction xs with
  | nil => simp [putL]
  | cons x xs ih =>
    have h := be_length hm x
    have : putL m (x :: xs) = be m x ++ putL m xs := by simp [putL]
    rw [this, List.length_append, h, ih, List.length_cons, Nat.add_mul]; omega
theorem putL_byt (m : Nat) (xs : List Int) : Byt (putL m xs) := by
  intro z hz
  obtain ⟨x, _, hz⟩ := List.mem_flatMap.1 hz
  exact be_byt m x z hz
theorem putL_take {m : Nat} {xs : List Int} {j : Nat} (h : j < xs.length) : putL m (xs.take (j + 1)) = putL m (xs.take j) ++ be m (nth xs j) := by
  rw [take_succ_nth h, putL_snoc]
def putZ (k : Int) (xs : List Int) : List Int := if rightB k = true then putL k.toNat xs else []
/-- the next byte: that at place 3 - i -/
theorem be_take {m t : Nat} (x : Int) (ht : t < m) (hm : m ≤ 4) : (be m x).take (t + 1) = (be m x).take t ++ [x / 256 ^ (m - 1 - t) % 256] := by
  have h4 : t = 0 ∨ t = 1 ∨ t = 2 ∨ t = 3 := by omega
  have h5 : m = 1 ∨ m = 2 ∨ m = 3 ∨ m = 4 := by omega
  rcases h4 with rfl | rfl | rfl | rfl <;> rcases h5 with rfl | rfl | rfl | rfl <;> first | omega | simp [be, be4]

set_option maxHeartbeats 4000000 in
theorem put_any (k : Int) (a : Option Addr) (n c : Nat) (xs : List Int) (w : World) (hx : Ints .u32 w a n c xs) (hr : ∀ x ∈ xs, 0 ≤ x ∧ x ≤ 4294967295) (hn : n ≤ 1099511627776) :
    Calls Tryz.prog 30 #[.int .i64 k, .slice a n c] w fun e w' => ∃ a' c', e = .returned (.slice a' (putZ k xs).length c') ∧ w'.ownsRow w.heap.size 5 1 (.slice a' (putZ k xs).length c') (putZ k xs).length ((putZ k xs).map (Value.int .u8)) ∧ Below w.heap.size w w' := by
  obtain ⟨i0, hi, hz0, hz1, hz2⟩ := info_parts info_u8
  have hcc := hx.cap
  unfold putZ
  cases hk : rightB k with
  | false =>
    clear hx
    go_enter Tryz.func30, Tryz.ntmps30
    go_wp2_with (go_at_call 47; refine (right_any _ _).mono ?_; rintro e w' ⟨rfl, rfl⟩; rw [hk])
    go_ret
    exact ⟨none, 0, rfl, by simpa using World.ownsRow_nil _ _ _ _, Below.refl _ _⟩
  | true =>
    have hk3 := right_cases hk
    obtain ⟨m, rfl⟩ : ∃ m : Nat, k = m := ⟨k.toNat, by omega⟩
    have hm : 1 ≤ m ∧ m ≤ 4 := by omega
    have hL := hx.len
    have hpl := putL_length hm.2 xs
    rw [if_pos rfl, Int.toNat_natCast, hpl, hL]
    obtain ⟨b1, o1, ha, hcx⟩ := hx.loc
    have HC := Lib.hid hcx
    have HL := Lib.hid hL
    have HR := Lib.hid hr
    clear hcx hx hL hr hpl hk3
    rcases ha with rfl | hn0
    all_goals
      go_enter Tryz.func30, Tryz.ntmps30
      go_wp2_with (go_at_call 47; refine (right_any _ _).mono ?_; rintro e w' ⟨rfl, rfl⟩; rw [hk])
      go_loopw [5, 14] (fun v i wr => ∃ j : Nat, j ≤ n ∧ i = .int .i64 j ∧ ∃ a' c', v = .slice a' (j * m) c' ∧ wr.ownsRow w.heap.size 5 1 v (j * m) ((putL m (xs.take j)).map (Value.int .u8)) ∧ Below w.heap.size w wr) (fun _ i _ => n - (intOf i).toNat)
      case atStart => exact ⟨0, Nat.zero_le _, rfl, none, 0, by simp, by simpa [putL] using World.ownsRow_nil _ _ _ _, Below.refl _ _⟩
      case round =>
        obtain ⟨j, hj, rfl, a', c', rfl, hown, hbw⟩ := hrel
        have HO := Lib.hid hown
        have HW := Lib.hid hbw
        have hszr : w.heap.size ≤ wr.heap.size := hbw.size
        clear hown
        by_cases hlt : j < n
        · try (exfalso; omega)
          all_goals
            have hcj := (hbw.cell (p := ⟨b1, o1 + j, none⟩) (HC.out j hlt).1).trans (HC.out j hlt).2
            have hst := Lib.hid (putL_take (m := m) (xs := xs) (j := j) (by rw [HL.out]; exact hlt))
            have hxb := HR.out _ (nth_mem (zs := xs) (k := j) (by rw [HL.out]; exact hlt))
            have hP : j * m ≤ 4398046511104 := by
              have := Nat.mul_le_mul (show j ≤ 1099511627776 by omega) hm.2
              omega
            have hP2 : (j + 1) * m = j * m + m := by rw [Nat.add_mul, Nat.one_mul]
            obtain ⟨P, hPe⟩ : ∃ P, P = j * m := ⟨_, rfl⟩
            rw [← hPe] at HO hP hP2 ⊢
            obtain ⟨L, hLe⟩ : ∃ L, L = putL m (xs.take j) := ⟨_, rfl⟩
            rw [← hLe] at HO hst
            obtain ⟨x, hxe⟩ : ∃ x, x = nth xs j := ⟨_, rfl⟩
            rw [← hxe] at hst hxb hcj
            have HP2 := Lib.hid hP2
            clear hbw hPe hLe hxe hP2
            go_wp2
            go_loopw [5, 8] (fun v i wr => ∃ t : Nat, t ≤ m ∧ i = .int .i64 ((m : Int) - 1 - (t : Int)) ∧ ∃ a' c', v = .slice a' (P + t) c' ∧ wr.ownsRow w.heap.size 5 1 v (P + t) ((L ++ (be m x).take t).map (Value.int .u8)) ∧ Below w.heap.size w wr) (fun _ i _ => (intOf i + 1).toNat)
            case atStart => exact ⟨0, Nat.zero_le _, by simp, a', c', by simp, by simpa using HO.out, HW.out⟩
            case round =>
              clear HO HW hszr
              obtain ⟨t, ht, rfl, a2, c2, rfl, hown, hbw⟩ := hrel
              have HO := Lib.hid hown
              have HW := Lib.hid hbw
              have hszr := hbw.size
              clear hown hbw
              by_cases htm : t < m
              · have hbe := Lib.hid (be_take (m := m) x htm hm.2)
                obtain ⟨s, hs, hs3, hs4⟩ : ∃ s : Nat, (m : Int) - 1 - (t : Int) = s ∧ s ≤ 3 ∧ m - 1 - t = s := ⟨m - 1 - t, by omega, by omega, rfl⟩
                rw [hs4] at hbe
                rw [hs]
                have HS := Lib.hid hs
                clear hs
                have hs5 : s = 0 ∨ s = 1 ∨ s = 2 ∨ s = 3 := by omega
                clear hs3 hs4
                rcases hs5 with rfl | rfl | rfl | rfl
                · have hbe2 := Lib.hid (show (be m x).take (t + 1) = (be m x).take t ++ [x % 256] by have := hbe.out; simpa using this)
                  clear hbe
                  go_wp2_with (at_builtin; refine append_own_any _ rfl _ _ 23 rfl w.heap.size 5 i0 (.int .u8 0) 1 Tryz.underlying23 hi hz0 hz1 hz2 rfl (.slice a2 (P + t) c2) _ _ rfl (HO.out.alloc _) _ _ _ [.int .u8 (x % 256)] rfl (Sl.at _ _ [.int .u8 (x % 256)] 5 1 rfl rfl (by omega)) (ints_oneCell .u8 [x % 256]) (by unfold maxLen; omega) (by omega) (by simp; omega) ?_; intro v' w2 hown1 hgrow)
                  have hown' := hown1.out
                  rw [show (L ++ (be m x).take t).map (Value.int .u8) ++ [.int .u8 (x % 256)] = (L ++ (be m x).take (t + 1)).map (Value.int .u8) by rw [hbe2.out]; simp] at hown'
                  obtain ⟨a3, c3, hv3, _⟩ := Sl.own hown'
                  subst hv3
                  have HO2 := Lib.hid hown'
                  have HW2 := Lib.hid ((HW.out.alloc hszr (.cells #[.int .u8 (x % 256)] 5)).grown hgrow.out (by simp; omega) (fun k' hk' => (HO.out.lt k' hk').1))
                  clear hown' hown1 hgrow hbe2 HO HW
                  go_wp2
                  go_roundw
                  case rel => exact ⟨t + 1, by omega, by have := HS.out; go_num, a3, c3, rfl, HO2.out, HW2.out⟩
                  case measure => simp [intOf]
                · have hbe2 := Lib.hid (show (be m x).take (t + 1) = (be m x).take t ++ [x / 256 % 256] by have := hbe.out; simpa using this)
                  clear hbe
                  go_wp2_with (at_builtin; refine append_own_any _ rfl _ _ 23 rfl w.heap.size 5 i0 (.int .u8 0) 1 Tryz.underlying23 hi hz0 hz1 hz2 rfl (.slice a2 (P + t) c2) _ _ rfl (HO.out.alloc _) _ _ _ [.int .u8 (x / 256 % 256)] rfl (Sl.at _ _ [.int .u8 (x / 256 % 256)] 5 1 rfl rfl (by omega)) (ints_oneCell .u8 [x / 256 % 256]) (by unfold maxLen; omega) (by omega) (by simp; omega) ?_; intro v' w2 hown1 hgrow)
                  have hown' := hown1.out
                  rw [show (L ++ (be m x).take t).map (Value.int .u8) ++ [.int .u8 (x / 256 % 256)] = (L ++ (be m x).take (t + 1)).map (Value.int .u8) by rw [hbe2.out]; simp] at hown'
                  obtain ⟨a3, c3, hv3, _⟩ := Sl.own hown'
                  subst hv3
                  have HO2 := Lib.hid hown'
                  have HW2 := Lib.hid ((HW.out.alloc hszr (.cells #[.int .u8 (x / 256 % 256)] 5)).grown hgrow.out (by simp; omega) (fun k' hk' => (HO.out.lt k' hk').1))
                  clear hown' hown1 hgrow hbe2 HO HW
                  go_wp2
                  go_roundw
                  case rel => exact ⟨t + 1, by omega, by have := HS.out; go_num, a3, c3, rfl, HO2.out, HW2.out⟩
                  case measure => simp [intOf]
                · have hbe2 := Lib.hid (show (be m x).take (t + 1) = (be m x).take t ++ [x / 65536 % 256] by have := hbe.out; simpa using this)
                  clear hbe
                  go_wp2_with (at_builtin; refine append_own_any _ rfl _ _ 23 rfl w.heap.size 5 i0 (.int .u8 0) 1 Tryz.underlying23 hi hz0 hz1 hz2 rfl (.slice a2 (P + t) c2) _ _ rfl (HO.out.alloc _) _ _ _ [.int .u8 (x / 65536 % 256)] rfl (Sl.at _ _ [.int .u8 (x / 65536 % 256)] 5 1 rfl rfl (by omega)) (ints_oneCell .u8 [x / 65536 % 256]) (by unfold maxLen; omega) (by omega) (by simp; omega) ?_; intro v' w2 hown1 hgrow)
                  have hown' := hown1.out
                  rw [show (L ++ (be m x).take t).map (Value.int .u8) ++ [.int .u8 (x / 65536 % 256)] = (L ++ (be m x).take (t + 1)).map (Value.int .u8) by rw [hbe2.out]; simp] at hown'
                  obtain ⟨a3, c3, hv3, _⟩ := Sl.own hown'
                  subst hv3
                  have HO2 := Lib.hid hown'
                  have HW2 := Lib.hid ((HW.out.alloc hszr (.cells #[.int .u8 (x / 65536 % 256)] 5)).grown hgrow.out (by simp; omega) (fun k' hk' => (HO.out.lt k' hk').1))
                  clear hown' hown1 hgrow hbe2 HO HW
                  go_wp2
                  go_roundw
                  case rel => exact ⟨t + 1, by omega, by have := HS.out; go_num, a3, c3, rfl, HO2.out, HW2.out⟩
                  case measure => simp [intOf]
                · have h256 : x / 16777216 % 256 = x / 16777216 := by omega
                  have hbe2 := Lib.hid (show (be m x).take (t + 1) = (be m x).take t ++ [x / 16777216] by have := hbe.out; simpa [h256] using this)
                  clear hbe h256
                  go_wp2_with (at_builtin; refine append_own_any _ rfl _ _ 23 rfl w.heap.size 5 i0 (.int .u8 0) 1 Tryz.underlying23 hi hz0 hz1 hz2 rfl (.slice a2 (P + t) c2) _ _ rfl (HO.out.alloc _) _ _ _ [.int .u8 (x / 16777216)] rfl (Sl.at _ _ [.int .u8 (x / 16777216)] 5 1 rfl rfl (by omega)) (ints_oneCell .u8 [x / 16777216]) (by unfold maxLen; omega) (by omega) (by simp; omega) ?_; intro v' w2 hown1 hgrow)
                  have hown' := hown1.out
                  rw [show (L ++ (be m x).take t).map (Value.int .u8) ++ [.int .u8 (x / 16777216)] = (L ++ (be m x).take (t + 1)).map (Value.int .u8) by rw [hbe2.out]; simp] at hown'
                  obtain ⟨a3, c3, hv3, _⟩ := Sl.own hown'
                  subst hv3
                  have HO2 := Lib.hid hown'
                  have HW2 := Lib.hid ((HW.out.alloc hszr (.cells #[.int .u8 (x / 16777216)] 5)).grown hgrow.out (by simp; omega) (fun k' hk' => (HO.out.lt k' hk').1))
                  clear hown' hown1 hgrow hbe2 HO HW
                  go_wp2
                  go_roundw
                  case rel => exact ⟨t + 1, by omega, by have := HS.out; go_num, a3, c3, rfl, HO2.out, HW2.out⟩
                  case measure => simp [intOf]
              · obtain rfl : t = m := by omega
                have HO2 : Hid (wr.ownsRow w.heap.size 5 1 (.slice a2 (P + t) c2) (P + t) ((putL t (xs.take (j + 1))).map (Value.int .u8))) := by
                  have h := HO.out
                  rw [List.take_of_length_le (by rw [be_length hm.2]; exact Nat.le_refl _), ← hst.out] at h
                  exact h
                clear HO hst
                go_wp2
                go_roundw
                case rel => exact ⟨j + 1, by omega, by go_num, a2, c2, by rw [HP2.out], by rw [HP2.out]; exact HO2.out, HW.out⟩
                case measure => simp [intOf]; omega
        · have hjn : j = n := by omega
          subst hjn
          have hT : xs.take j = xs := List.take_of_length_le (by rw [HL.out]; omega)
          rw [hT] at HO
          clear hbw hT
          go_wp2
          go_ret
          exact ⟨_, _, rfl, HO.out, HW.out⟩

end Go.Proofs.YtmncmbbgdkkgaaaGreatDoor

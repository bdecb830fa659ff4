/- The reference: At, Reduce. -/
import Derived.Test.YtadlmefdkpbflaaPoly7
namespace Go.Proofs.Ytadlmefdkpbflaa
open Go.RowKit

/-- the reference's At, from 0 on -/
theorem at_any (a : Option Addr) (n c : Nat) (zs : List Int) (k : Nat) (w : World) (hx : Ints .u8 w a n c zs) (hB : Byt zs) :
    Calls Try.prog 29 #[.slice a n c, .int .i64 k] w fun e w' => e = .returned (.int .i64 (nth zs k % 2)) ∧ w = w' := by
  have hcc := hx.cap
  have hL := hx.len
  obtain ⟨b1, o1, ha, hcx⟩ := hx.loc
  have hz := hB.nth k
  have HC := Lib.hid hcx
  clear hx hB hcx
  by_cases hlt : k < n
  · obtain rfl : a = some ⟨b1, o1, none⟩ := by rcases ha with h | h; exact h; exact absurd h (by omega)
    have h1 := (HC.out k hlt).2
    have e1 : decide ((n : Int) ≤ (k : Int)) = false := by simp; omega
    clear hL
    go_enter Try.func29, Try.ntmps29
    go_wp2
    go_ret
    exact ⟨rfl, rfl⟩
  · have hv : nth zs k % 2 = 0 := by rw [nth_ge (by omega)]; rfl
    rw [hv]
    have e1 : decide ((n : Int) ≤ (k : Int)) = true := by simp; omega
    clear hv hz HC ha hL
    go_enter Try.func29, Try.ntmps29
    go_wp2
    go_ret
    exact ⟨rfl, rfl⟩

/-- a polynomial of the reference: a list of its own, or nil -/
def PolyR (w w' : World) (e : Ending) (x : Nat) : Prop := ∃ a c, e = .returned (.slice a (sz x) c) ∧ Ints .u8 w' a (sz x) c (ofN x) ∧ Below w.heap.size w w'

theorem one_sl (w : World) (v : Int) (e : TypeId) : Sl (w.alloc (.cells #[.int .u8 v] e)) (some ⟨w.heap.size, 0, none⟩) 1 1 [.int .u8 v] :=
  Sl.at w w.heap.size [.int .u8 v] e 1 rfl rfl (by omega)
theorem sz_of_high {zs : List Int} {k : Nat} (hk : k ≤ zs.length) (h : ∀ i, k ≤ i → i < zs.length → nth zs i % 2 = 0) (h1 : k = 0 ∨ nth zs (k - 1) % 2 = 1) : sz (toN zs) = k := by
  have hlt : toN zs < 2 ^ k := by
    apply Nat.lt_pow_two_of_testBit
    intro i hi
    rw [testBit_toN]
    by_cases hl : i < zs.length
    · rw [h i hi hl]; rfl
    · rw [nth_ge (by omega)]; rfl
  rcases h1 with rfl | h1
  · have := sz_le hlt; omega
  · cases k with
    | zero => have := sz_le hlt; omega
    | succ k => exact sz_of_top hlt (by rw [testBit_toN]; simpa using h1)

theorem refreduce_any (a : Option Addr) (n c : Nat) (zs : List Int) (w : World) (hx : Ints .u8 w a n c zs) (hB : Byt zs) (hn : n ≤ 1099511627776) :
    Calls Try.prog 17 #[.slice a n c] w fun e w' => PolyR w w' e (toN zs) := by
  obtain ⟨i0, hi, hz0, hz1, hz2⟩ := info_parts info_u8
  have hcc := hx.cap
  have HB := Lib.hid hB
  have HL := Lib.hid hx.len
  obtain ⟨b1, o1, ha, hcx⟩ := hx.loc
  have HC := Lib.hid hcx
  have HA := Lib.hid ha
  clear hx hB hcx ha
  go_enter Try.func17, Try.ntmps17
  go_wp2
  go_loop [3] (fun s => ∃ k : Nat, k ≤ n ∧ s = .int .i64 k ∧ ∀ i, k ≤ i → i < n → nth zs i % 2 = 0) (fun s => (intOf s).toNat)
  case atStart => exact ⟨n, Nat.le_refl _, rfl, fun i h1 h2 => absurd h2 (by omega)⟩
  case round =>
    obtain ⟨k, hk, rfl, hhi⟩ := hrel
    have HH := Lib.hid hhi
    clear hhi
    cases k with
    | zero =>
      have hs := sz_of_high (zs := zs) (Nat.zero_le _) (fun i h1 h2 => HH.out i h1 (by rw [← HL.out]; exact h2)) (.inl rfl)
      have hx0 : toN zs = 0 := sz_zero_iff.1 hs
      have HX := Lib.hid hx0
      clear hs hx0 hk
      go_wp2
      go_rounds 1
      all_goals go_ret
      all_goals rw [HX.out]
      all_goals exact ⟨none, 0, rfl, Ints.nil _ _, Below.refl _ _⟩
    | succ k =>
      obtain rfl : a = some ⟨b1, o1, none⟩ := by rcases HA.out with h | h; exact h; exact absurd h (by omega)
      clear HA
      have h1 := (HC.out k (by omega)).2
      have hz := HB.out.nth k
      by_cases hv : nth zs k % 2 = 0
      · have HV := Lib.hid hv
        go_wp2
        go_round
        case rel =>
          refine ⟨k, by omega, by go_num, fun i h1 h2 => ?_⟩
          by_cases e : i = k
          · rw [e]; exact HV.out
          · exact HH.out i (by omega) h2
        case measure => simp [intOf]
      · have hs := Lib.hid (sz_of_high (zs := zs) (k := k + 1) (by rw [HL.out]; exact hk) (fun i h1 h2 => HH.out i h1 (by rw [← HL.out]; exact h2)) (.inr (by rw [Nat.add_sub_cancel]; omega)))
        have hv1 : nth zs k % 2 = 1 := by omega
        clear hv
        go_wp2
        clear h1 hz hv1
        go_loopw [4, 5] (fun v i wr => ∃ j : Nat, j ≤ k + 1 ∧ i = .int .i64 j ∧ ∃ a' c', v = .slice a' j c' ∧ wr.ownsRow w.heap.size 5 1 v j ((bitsL (toN zs) j).map (Value.int .u8)) ∧ Below w.heap.size w wr) (fun _ i _ => k + 1 - (intOf i).toNat)
        case atStart => exact ⟨0, Nat.zero_le _, rfl, none, 0, rfl, by simpa [bitsL] using World.ownsRow_nil _ _ _ _, Below.refl _ _⟩
        case round =>
          obtain ⟨j, hj, rfl, a', c', rfl, hown, hbw⟩ := hrel
          have HO := Lib.hid hown
          have HW := Lib.hid hbw
          have hszr : w.heap.size ≤ wr.heap.size := hbw.size
          clear hown
          by_cases hlt : j < k + 1
          · have hcj := (hbw.cell (p := ⟨b1, o1 + j, none⟩) (HC.out j (by omega)).1).trans (HC.out j (by omega)).2
            have hz := HB.out.nth j
            have hst := Lib.hid (bitsL_succ (toN zs) j)
            have hbt := Lib.hid (bits_mod zs (n := j + 1) (i := j) (by omega))
            have hb2 := Lib.hid (nth_bitsL (x := toN zs) (n := j + 1) (i := j) (by omega))
            have HSL := Lib.hid (one_sl wr (nth zs j % 2) 5)
            clear hbw
            go_wp2_with (at_builtin; refine append_own_any _ rfl _ _ 22 rfl w.heap.size 5 i0 (.int .u8 0) 1 Try.underlying22 hi hz0 hz1 hz2 rfl (.slice a' j c') _ _ rfl (HO.out.alloc _) _ _ _ _ rfl HSL.out (ints_oneCell .u8 [nth zs j % 2]) (by unfold maxLen; omega) (by omega) (by simp; omega) ?_; intro v' w3 hown1 hgrow)
            have hown' := hown1.out
            rw [← hbt.out, hb2.out, show [Value.int .u8 (if (toN zs).testBit j = true then 1 else 0)] = [if (toN zs).testBit j = true then (1 : Int) else 0].map (Value.int .u8) from rfl, ← List.map_append, ← hst.out] at hown'
            obtain ⟨a3, c3, hv3, _⟩ := Sl.own hown'
            subst hv3
            have HO2 := Lib.hid hown'
            have HW2 := Lib.hid ((HW.out.alloc hszr (.cells #[.int .u8 (nth zs j % 2)] 5)).grown hgrow.out (by simp; omega) (fun k' hk' => (HO.out.lt k' hk').1))
            go_roundw
            case rel => exact ⟨j + 1, by omega, by go_num, a3, c3, rfl, HO2.out, HW2.out⟩
            case measure => simp [intOf]; omega
          · obtain rfl : j = k + 1 := by omega
            have hN : bitsL (toN zs) (k + 1) = ofN (toN zs) := by unfold ofN; rw [hs.out]
            have HN := Lib.hid hN
            clear hN hbw hlt
            go_wp2
            go_ret
            unfold PolyR
            rw [hs.out, ← HN.out]
            obtain ⟨a3, c3, hv3, hI⟩ := Ints.own HO.out
            cases hv3
            exact ⟨_, _, rfl, hI, HW.out⟩
end Go.Proofs.Ytadlmefdkpbflaa

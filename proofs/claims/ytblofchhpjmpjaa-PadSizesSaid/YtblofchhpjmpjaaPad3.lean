/- The contracts of slices.Grow, slices.Concat, pad.Bytes and of the reference's Sizes and Bytes. -/
import Derived.Test.YtblofchhpjmpjaaPad2
namespace Go.Proofs.Ytblofchhpjmpjaa
open Go.RowKit

/-- what the reference's Sizes holds after k rounds of n -/
def rsv (zs : List Int) (n k : Nat) : Int := if k < n then szs (zs.take k) + gap (szs (zs.take k)) else szs (zs.take k)
theorem rsv_step {zs : List Int} {n k : Nat} (hl : zs.length = n) (hk : k + 1 < n) : rsv zs n (k + 1) = rsv zs n k + nth zs k + gap (nth zs k) := by
  have h1 := szs_take zs (k := k) (by omega)
  simp only [rsv, if_pos hk, if_pos (show k < n by omega), h1]
  unfold gap
  omega
theorem rsv_last {zs : List Int} {n k : Nat} (hl : zs.length = n) (hk : k + 1 = n) : rsv zs n (k + 1) = rsv zs n k + nth zs k := by
  have h1 := szs_take zs (k := k) (by omega)
  simp only [rsv, if_neg (show ¬ k + 1 < n by omega), if_pos (show k < n by omega), h1]
theorem rsv_bd (zs : List Int) (n k : Nat) (hk : k ≤ 1048576) (h : ∀ z ∈ zs, 0 ≤ z ∧ z ≤ 1048576) : 0 ≤ rsv zs n k ∧ rsv zs n k ≤ 1099514773510 := by
  have h1 := szs_take_bd zs k hk h
  have h2 := gap_bd (szs (zs.take k))
  unfold rsv; split <;> omega

theorem refsizes_any (a : Option Addr) (n c : Nat) (zs : List Int) (w : World) (hx : Ints .i64 w a n c zs) (hn : n ≤ 1048576) (hB : ∀ z ∈ zs, 0 ≤ z ∧ z ≤ 1048576) :
    Calls Try.prog 19 #[.slice a n c] w fun e w' => e = .returned (.int .i64 (szs zs)) ∧ w = w' := by
  have hl1 := hx.len
  have hc1 := hx.cap
  have L1 := Lib.hid hl1
  have HB := Lib.hid hB
  have hcl := hx.cells
  clear hl1 hB hx
  rcases hcl with ⟨rfl, rfl⟩ | ⟨b1, o1, rfl, hb1, hn0, hcx⟩
  · go_enter Try.func19, Try.ntmps19
    go_wp2
    go_rounds 1
    all_goals go_ret
    all_goals exact ⟨rfl, rfl⟩
  · have HX := Lib.hid hcx
    clear hcx
    have h00 : Hid (rsv zs n 0 = 0) := by simp [Hid, rsv, hn0, szs, gap]
    go_enter Try.func19, Try.ntmps19
    go_wp2
    go_loop [3, 4] (fun s i => ∃ k : Nat, k ≤ n ∧ i = .int .i64 k ∧ s = .int .i64 (rsv zs n k)) (fun _ i => n - (intOf i).toNat)
    case atStart => exact ⟨0, Nat.zero_le _, rfl, by rw [h00.out]⟩
    case round =>
      obtain ⟨k, hk, rfl, rfl⟩ := hrel
      have hsb := rsv_bd zs n k (by omega) HB.out
      by_cases hlt : k < n
      · have h1 := HX.out k hlt
        have hxb := HB.out (nth zs k) (nth_mem (by rw [L1.out]; exact hlt))
        have hgx := gap_bd (nth zs k)
        by_cases hlast : k + 1 < n
        · have hst := Lib.hid (rsv_step (k := k) L1.out hlast)
          go_wp2_with (go_at_call 10; refine (refgap_any _ _ (by omega) (by omega)).mono ?_; rintro e w' ⟨rfl, rfl⟩)
          go_round
          case rel => exact ⟨k + 1, by omega, by go_num, by rw [hst.out]⟩
          case measure => simp [intOf]; omega
        · have hst := Lib.hid (rsv_last (k := k) L1.out (by omega))
          go_wp2
          go_round
          case rel => exact ⟨k + 1, by omega, by go_num, by rw [hst.out]⟩
          case measure => simp [intOf]; omega
      · have he : Hid (rsv zs n k = szs zs) := by
          have : zs.take k = zs := List.take_of_length_le (by rw [L1.out]; omega)
          simp [Hid, rsv, hlt, this]
        go_wp2
        go_ret
        exact ⟨ret_int he.out, rfl⟩

theorem info5 : (Try.prog.info? 5).map (fun i => (i.zero, i.size, i.bytes)) = some (some (.int .u8 0), 1, 1) := by kernel_rfl

/-- slices.Grow(nil, n) -/
theorem grow_nil (n : Nat) (w : World) (hn : n ≤ 70368744177664) :
    Calls Try.prog 24 #[.slice none 0 0, .int .i64 n] w fun e w' => ∃ v, e = .returned v ∧ w'.ownsRow w.heap.size 5 1 v 0 [] ∧ Below w.heap.size w w' := by
  obtain ⟨i0, hi, hz0, hz1, hz2⟩ := info_parts info5
  by_cases h0 : n = 0
  · subst h0
    go_enter Try.func24, Try.ntmps24
    go_wp2
    go_ret
    exact ⟨_, rfl, World.ownsRow_nil _ _ _ _, Below.refl _ _⟩
  · have hrz : ∀ ty, (Builtin.append_ #[22, 3] ty #[.slice none 0 0, .int .i64 (n : Int)]).run Try.prog w =
        .ok (.slice (some ⟨w.heap.size, 0, none⟩) n (grownCap w n 0 5)) (w.drew.alloc (.cells (#[] ++ Builtin.zeroCells (Value.int .u8 0).cells n ++ Builtin.zeroCells (Value.int .u8 0).cells (grownCap w n 0 5 - n)) 5)) := fun ty => by
      have h := Lib.run_append_grow_zeros (P := Try.prog) w 22 3 ty 5 i0 (.int .u8 0) .i64 .i64 Try.underlying22 Try.underlying3 hi hz0 none 0 0 [] (run_firstCells_none w.drew i0.size 0 0 0) n (by omega) (by omega) (by omega) (by omega)
        (by rw [hz2]; omega) (by
          have := growslice_fits (need := 0 + n) (old := 0) (bytes := i0.bytes) (by omega) (by rw [hz2]; omega)
          exact this)
      simpa using h
    have hG : n ≤ grownCap w n 0 5 := grownCap_ge w _ _ _
    have hGm : grownCap w n 0 5 ≤ maxLen := grownCap_le_maxLen w n 0 5 (by unfold maxLen; omega)
    have hsz : (#[] ++ Builtin.zeroCells (Value.int .u8 0).cells n ++ Builtin.zeroCells (Value.int .u8 0).cells (grownCap w n 0 5 - n)).size = grownCap w n 0 5 * 1 := by
      simp only [Array.size_append, size_zeroCells]
      simp [Value.cells]
      omega
    obtain ⟨G, hGe⟩ : ∃ G, G = grownCap w n 0 5 := ⟨_, rfl⟩
    rw [← hGe] at hrz hG hGm hsz
    obtain ⟨cs, hcs⟩ : ∃ cs, cs = (#[] ++ Builtin.zeroCells (Value.int .u8 0).cells n ++ Builtin.zeroCells (Value.int .u8 0).cells (G - n)) := ⟨_, rfl⟩
    rw [← hcs] at hrz hsz
    have hm := hGm
    unfold maxLen at hm
    have hnn : ¬ ((n : Int) < 0) := by omega
    have hnp : (n : Int) > 0 := by omega
    have HG := Lib.hid hsz
    clear hGe hcs hsz
    go_enter Try.func24, Try.ntmps24
    go_wp2_with (at_builtin; refine Lib.wpList_append_run _ rfl _ _ _ _ rfl _ _ rfl rfl _ _ (hrz _) ?_)
    go_ret
    exact ⟨_, rfl, World.ownsRow_made w.drew cs G (Nat.le_refl _) hGm HG.out, ((Below.refl _ w).drew).alloc (Nat.le_refl _) _⟩

end Go.Proofs.Ytblofchhpjmpjaa

/- The contracts of slices.Grow and slices.Concat over bytes. -/
import Derived.Test.YtoldkoeijgnflaaBase
namespace Go.Proofs.Ytoldkoeijgnflaa
open Go.RowKit

theorem info_byte : (Try.prog.info? 5).map (fun i => (i.zero, i.size, i.bytes)) = some (some (.int .u8 0), 1, 1) := by kernel_rfl

/-- slices.Grow(nil, n) -/
theorem grow_nil (n : Nat) (w : World) (hn : n ≤ 70368744177664) :
    Calls Try.prog 32 #[.slice none 0 0, .int .i64 n] w fun e w' => ∃ v, e = .returned v ∧ w'.ownsRow w.heap.size 5 1 v 0 [] ∧ Below w.heap.size w w' := by
  obtain ⟨i0, hi, hz0, hz1, hz2⟩ := info_parts info_byte
  by_cases h0 : n = 0
  · subst h0
    go_enter Try.func32, Try.ntmps32
    go_wp2
    go_ret
    exact ⟨_, rfl, World.ownsRow_nil _ _ _ _, Below.refl _ _⟩
  · have hrz : ∀ ty, (Builtin.append_ #[22, 3] ty #[.slice none 0 0, .int .i64 (n : Int)]).run Try.prog w =
        .ok (.slice (some ⟨w.heap.size, 0, none⟩) n (grownCap w n 0 5)) (w.drew.alloc (.cells (#[] ++ Builtin.zeroCells (Value.int .u8 0).cells n ++ Builtin.zeroCells (Value.int .u8 0).cells (grownCap w n 0 5 - n)) 5)) := fun ty => by
      have h := Lib.run_append_grow_zeros (P := Try.prog) w 22 3 ty 5 i0 (.int .u8 0) .i64 .i64 Try.underlying22 Try.underlying3 hi hz0 none 0 0 [] (run_firstCells_none w.drew i0.size 0 0 0) n (by omega) (by omega) (by omega) (by omega)
        (by rw [hz2]; omega) (by
          have := growslice_fits (need := 0 + n) (old := 0) (bytes := i0.bytes) (by omega) (by rw [hz2]; omega)
          exact this)
      simpa using h
    have hG : n ≤ grownCap w n 0 5 := grownCap_ge w _ _ _
    have hGm : grownCap w n 0 5 ≤ maxLen := grownCap_le_maxLen w n 0 5 (by unfold maxLen; omega)
    have hsz : (#[] ++ Builtin.zeroCells (Value.int .u8 0).cells n ++ Builtin.zeroCells (Value.int .u8 0).cells (grownCap w n 0 5 - n)).size = grownCap w n 0 5 * 1 := by
      simp only [Array.size_append, size_zeroCells]
      simp [Value.cells]
      omega
    obtain ⟨G, hGe⟩ : ∃ G, G = grownCap w n 0 5 := ⟨_, rfl⟩
    rw [← hGe] at hrz hG hGm hsz
    obtain ⟨cs, hcs⟩ : ∃ cs, cs = (#[] ++ Builtin.zeroCells (Value.int .u8 0).cells n ++ Builtin.zeroCells (Value.int .u8 0).cells (G - n)) := ⟨_, rfl⟩
    rw [← hcs] at hrz hsz
    have hm := hGm
    unfold maxLen at hm
    have hnn : ¬ ((n : Int) < 0) := by omega
    have hnp : (n : Int) > 0 := by omega
    have HG := Lib.hid hsz
    clear hGe hcs hsz
    go_enter Try.func32, Try.ntmps32
    go_wp2_with (at_builtin; refine Lib.wpList_append_run _ rfl _ _ _ _ rfl _ _ rfl rfl _ _ (hrz _) ?_)
    go_ret
    exact ⟨_, rfl, World.ownsRow_made w.drew cs G (Nat.le_refl _) hGm HG.out, ((Below.refl _ w).drew).alloc (Nat.le_refl _) _⟩

theorem concat_any (a : Option Addr) (n c : Nat) (ps : List Part) (w : World) (hp : Parts w a n c ps) (ht : tot ps ≤ 1099511627776) :
    Calls Try.prog 28 #[.slice a n c] w fun e w' => ∃ v, e = .returned v ∧ w'.ownsRow w.heap.size 5 1 v (tot ps) ((cat ps).map (Value.int .u8)) ∧ Below w.heap.size w w' := by
  obtain ⟨i0, hi, hz0, hz1, hz2⟩ := info_parts info_byte
  have hl1 := hp.len
  have hc1 : n ≤ c ∧ c ≤ 9223372036854775807 := ⟨hp.1.2.1, hp.1.2.2.1⟩
  have L1 := Lib.hid hl1
  have HP := Lib.hid hp
  have hcl := hp.cells
  clear hl1 hp
  rcases hcl with ⟨rfl, rfl⟩ | ⟨b1, o1, rfl, hb1, hn0, hcx⟩
  · go_enter Try.func28, Try.ntmps28
    go_wp2
    refine wp_loop_rounds 1 ?_
    rw [rounds_succ]
    go_wp2_with fail
    refine (grow_nil 0 _ (by omega)).mono ?_
    rintro e w1 ⟨v, rfl, hown, hb⟩
    have HO := Lib.hid hown
    have HW := Lib.hid hb
    clear hown hb
    go_wp2
    go_rounds 1
    all_goals go_ret
    all_goals exact ⟨_, rfl, HO.out, HW.out⟩
  · have HX := Lib.hid hcx
    clear hcx
    go_enter Try.func28, Try.ntmps28
    go_wp2
    go_loop [3, 5, 11] (fun s _ i => ∃ k : Nat, k ≤ n ∧ i = .int .i64 k ∧ s = .int .i64 (tot (ps.take k))) (fun _ _ i => n - (intOf i).toNat)
    case atStart => exact ⟨0, Nat.zero_le _, rfl, rfl⟩
    case round =>
      obtain ⟨k, hk, rfl, rfl⟩ := hrel
      have hle := tot_take_le ps k
      by_cases hlt : k < n
      · have h1 := HX.out k hlt
        have hle2 := part_le (ps := ps) (k := k) (by rw [L1.out]; exact hlt)
        have hst := Lib.hid (tot_take (ps := ps) (k := k) (by rw [L1.out]; exact hlt))
        go_wp2
        go_round
        case rel => exact ⟨k + 1, by omega, by go_num, by rw [hst.out]; go_num⟩
        case measure => simp [intOf]; omega
      · have he : Hid (ps.take k = ps) := List.take_of_length_le (by rw [L1.out]; omega)
        rw [he.out] at hle
        go_wp2_with fail
        rw [he.out]
        refine (grow_nil (tot ps) _ (by omega)).mono ?_
        rintro e w1 ⟨v, rfl, hown, hb⟩
        have h00 : Hid (w1.ownsRow w.heap.size 5 1 v (tot (ps.take 0)) ((cat (ps.take 0)).map (Value.int .u8))) := hown
        have HW := Lib.hid hb
        clear hown hb hle he
        go_wp2
        go_loopw [6, 8, 27] (fun v _ i wr => ∃ k : Nat, k ≤ n ∧ i = .int .i64 k ∧ wr.ownsRow w.heap.size 5 1 v (tot (ps.take k)) ((cat (ps.take k)).map (Value.int .u8)) ∧ Below w.heap.size w wr) (fun _ _ i _ => n - (intOf i).toNat)
        case atStart => exact ⟨0, Nat.zero_le _, rfl, h00.out, HW.out⟩
        case round =>
          clear h00 HW
          obtain ⟨k, hk, rfl, hown, hbw⟩ := hrel
          have HO := Lib.hid hown
          have HWr := Lib.hid hbw
          have hle := tot_take_le ps k
          have hszr : w.heap.size ≤ wr.heap.size := hbw.size
          clear hown hbw
          by_cases hlt : k < n
          · have hcell : wr.cell? ⟨b1, o1 + k, none⟩ = some (.slice (prt ps k).a (prt ps k).n (prt ps k).c) := (HWr.out.cell (p := ⟨b1, o1 + k, none⟩) hb1).trans (HX.out k hlt)
            have hle2 := part_le (ps := ps) (k := k) (by rw [L1.out]; exact hlt)
            have hst := Lib.hid (tot_take (ps := ps) (k := k) (by rw [L1.out]; exact hlt))
            have hsc := Lib.hid (cat_take (ps := ps) (k := k) (by rw [L1.out]; exact hlt))
            have HS := Lib.hid (((HP.out.2 _ (prt_mem (by rw [L1.out]; exact hlt))).1).below HWr.out)
            go_wp2_with (at_builtin; refine append_own_any _ rfl _ _ 22 rfl w.heap.size 5 i0 (.int .u8 0) 1 Try.underlying22 hi hz0 hz1 hz2 rfl _ _ _ rfl HO.out _ _ _ ((prt ps k).zs.map (Value.int .u8)) rfl HS.out (ints_oneCell _ _) (by unfold maxLen; omega) (by omega) (by omega) ?_; intro v' w2 HO2 hgrow)
            have HW2 := Lib.hid (HWr.out.grown hgrow.out (by omega) (fun k' hk' => (HO.out.lt k' hk').1))
            clear hgrow HO HWr
            go_wp2
            go_roundw
            case rel => exact ⟨k + 1, by omega, by go_num, by rw [hst.out, hsc.out, List.map_append]; exact HO2.out, HW2.out⟩
            case measure => simp [intOf]; omega
          · have he : Hid (ps.take k = ps) := List.take_of_length_le (by rw [L1.out]; omega)
            rw [he.out] at HO
            clear hle he
            go_wp2
            go_ret
            exact ⟨_, rfl, HO.out, HWr.out⟩

end Go.Proofs.Ytoldkoeijgnflaa

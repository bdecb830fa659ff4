/- The contracts of slices.Concat, pad.Bytes and the reference's Bytes. -/
import Derived.Test.YtpccbnlbonjklaaDoorTPad3
namespace Go.Proofs.YtpccbnlbonjklaaDoor.Pd
set_option maxRecDepth 100000
open Go.RowKit

theorem ownsRow_bytes_oneCell (zs : List Int) : ∀ u ∈ zs.map (Value.int .u8), u.oneCell' = true := ints_oneCell .u8 zs

theorem concat_any (a : Option Addr) (n c : Nat) (ps : List Part) (w : World) (hp : Parts w a n c ps) (ht : tot ps ≤ 1099511627776) :
    Calls Tryd.prog 41 #[.slice a n c] w fun e w' => ∃ v, e = .returned v ∧ w'.ownsRow w.heap.size 5 1 v (tot ps) ((cat ps).map (Value.int .u8)) ∧ Below w.heap.size w w' := by
  obtain ⟨i0, hi, hz0, hz1, hz2⟩ := info_parts info5
  have hl1 := hp.len
  have hc1 : n ≤ c ∧ c ≤ 9223372036854775807 := ⟨hp.1.2.1, hp.1.2.2.1⟩
  have L1 := Lib.hid hl1
  have HP := Lib.hid hp
  have hcl := hp.cells
  clear hl1 hp
  rcases hcl with ⟨rfl, rfl⟩ | ⟨b1, o1, rfl, hb1, hn0, hcx⟩
  · go_enter Tryd.func41, Tryd.ntmps41
    go_wp2
    refine wp_loop_rounds 1 ?_
    rw [rounds_succ]
    go_wp2_with fail
    refine (grow_nil 0 _ (by omega)).mono ?_
    rintro e w1 ⟨v, rfl, hown, hb⟩
    have HO := Lib.hid hown
    have HW := Lib.hid hb
    clear hown hb
    go_wp2
    go_rounds 1
    all_goals go_ret
    all_goals exact ⟨_, rfl, HO.out, HW.out⟩
  · have HX := Lib.hid hcx
    clear hcx
    go_enter Tryd.func41, Tryd.ntmps41
    go_wp2
    go_loop [3, 5, 11] (fun s _ i => ∃ k : Nat, k ≤ n ∧ i = .int .i64 k ∧ s = .int .i64 (tot (ps.take k))) (fun _ _ i => n - (intOf i).toNat)
    case atStart => exact ⟨0, Nat.zero_le _, rfl, rfl⟩
    case round =>
      obtain ⟨k, hk, rfl, rfl⟩ := hrel
      have hle := tot_take_le ps k
      by_cases hlt : k < n
      · have h1 := HX.out k hlt
        have hle2 := part_le (ps := ps) (k := k) (by rw [L1.out]; exact hlt)
        have hst := Lib.hid (tot_take (ps := ps) (k := k) (by rw [L1.out]; exact hlt))
        go_wp2
        go_round
        case rel => exact ⟨k + 1, by omega, by go_num, by rw [hst.out]; go_num⟩
        case measure => simp [intOf]; omega
      · have he : Hid (ps.take k = ps) := List.take_of_length_le (by rw [L1.out]; omega)
        rw [he.out] at hle
        go_wp2_with fail
        rw [he.out]
        refine (grow_nil (tot ps) _ (by omega)).mono ?_
        rintro e w1 ⟨v, rfl, hown, hb⟩
        have h00 : Hid (w1.ownsRow w.heap.size 5 1 v (tot (ps.take 0)) ((cat (ps.take 0)).map (Value.int .u8))) := hown
        have HW := Lib.hid hb
        clear hown hb hle he
        go_wp2
        go_loopw [6, 8, 27] (fun v _ i wr => ∃ k : Nat, k ≤ n ∧ i = .int .i64 k ∧ wr.ownsRow w.heap.size 5 1 v (tot (ps.take k)) ((cat (ps.take k)).map (Value.int .u8)) ∧ Below w.heap.size w wr) (fun _ _ i _ => n - (intOf i).toNat)
        case atStart => exact ⟨0, Nat.zero_le _, rfl, h00.out, HW.out⟩
        case round =>
          clear h00 HW
          obtain ⟨k, hk, rfl, hown, hbw⟩ := hrel
          have HO := Lib.hid hown
          have HWr := Lib.hid hbw
          have hle := tot_take_le ps k
          have hszr : w.heap.size ≤ wr.heap.size := hbw.size
          clear hown hbw
          by_cases hlt : k < n
          · have hcell : wr.cell? ⟨b1, o1 + k, none⟩ = some (.slice (prt ps k).a (prt ps k).n (prt ps k).c) := (HWr.out.cell (p := ⟨b1, o1 + k, none⟩) hb1).trans (HX.out k hlt)
            have hle2 := part_le (ps := ps) (k := k) (by rw [L1.out]; exact hlt)
            have hst := Lib.hid (tot_take (ps := ps) (k := k) (by rw [L1.out]; exact hlt))
            have hsc := Lib.hid (cat_take (ps := ps) (k := k) (by rw [L1.out]; exact hlt))
            have HS := Lib.hid (((HP.out.2 _ (prt_mem (by rw [L1.out]; exact hlt))).1).below HWr.out)
            go_wp2_with (at_builtin; refine append_own_any _ rfl _ _ 22 rfl w.heap.size 5 i0 (.int .u8 0) 1 Tryd.underlying22 hi hz0 hz1 hz2 rfl _ _ _ rfl HO.out _ _ _ ((prt ps k).zs.map (Value.int .u8)) rfl HS.out (ints_oneCell _ _) (by unfold maxLen; omega) (by omega) (by omega) ?_; intro v' w2 HO2 hgrow)
            have HW2 := Lib.hid (HWr.out.grown hgrow.out (by omega) (fun k' hk' => (HO.out.lt k' hk').1))
            clear hgrow HO HWr
            go_wp2
            go_roundw
            case rel => exact ⟨k + 1, by omega, by go_num, by rw [hst.out, hsc.out, List.map_append]; exact HO2.out, HW2.out⟩
            case measure => simp [intOf]; omega
          · have he : Hid (ps.take k = ps) := List.take_of_length_le (by rw [L1.out]; omega)
            rw [he.out] at HO
            clear hle he
            go_wp2
            go_ret
            exact ⟨_, rfl, HO.out, HWr.out⟩

theorem zeros_cells (g : Nat) : (madeCells (Value.int .u8 0).cells (g * 1)).toList = (List.replicate g (0 : Int)).map (Value.int .u8) := by
  rw [Nat.mul_one]
  show (madeCells #[Value.int .u8 0] g).toList = _
  rw [toList_madeCells_one, List.map_replicate]

theorem bytes_any (a : Option Addr) (n c : Nat) (zs : List Int) (w : World) (hx : Ints .u8 w a n c zs) (hb : Byt zs) (hn : n ≤ 549755813888) :
    Calls Tryd.prog 27 #[.slice a n c] w fun e w' => ∃ v, e = .returned v ∧ w'.ownsRow w.heap.size 5 1 v (n + (gap n).toNat) ((zs ++ List.replicate (gap n).toNat 0).map (Value.int .u8)) ∧ Below w.heap.size w w' := by
  obtain ⟨i0, hi, hz0, hz1, hz2⟩ := info_parts info5
  have hgb := gap_bd n
  obtain ⟨g, hg⟩ := Int.eq_ofNat_of_zero_le hgb.1
  have HG := Lib.hid hg
  have hg4 : g < 4 := by omega
  have hl1 := Lib.hid hx.len
  have hc1 := hx.cap
  have HX := Lib.hid hx
  rw [hg, Int.toNat_natCast]
  clear hg hx hgb
  go_enter Tryd.func27, Tryd.ntmps27
  go_wp2_with (first
    | (go_at_call 42; refine (gap_any _ _ (by omega) (by omega)).mono ?_; rintro e w' ⟨rfl, rfl⟩; rw [HG.out])
    | (at_make; refine wpList_make_full _ rfl _ _ 22 rfl w.heap.size 5 i0 (.int .u8 0) 1 Tryd.underlying22 hi hz0 hz1 .i64 .i64 _ _ g rfl rfl rfl rfl (by rw [hz2]; omega) (by unfold maxLen; omega) (Nat.le_refl _) ?_))
  intro w1 hown hgrow
  have HO := Lib.hid hown
  have HB1 := Lib.hid (below_grown hgrow rfl)
  have hs1 : w.heap.size ≤ w1.heap.size := hgrow.size
  clear hown hgrow
  have hown1 := HO.out
  have e1 : (madeCells #[Value.int .u8 0] (g * 1)).toList = (List.replicate g (0 : Int)).map (Value.int .u8) := zeros_cells g
  rw [Nat.mul_one] at e1
  rw [e1] at hown1
  obtain ⟨a2, c2, hv2, hs2⟩ := Ints.own hown1
  have hP := Parts.new w1 [⟨a, n, c, zs⟩, ⟨a2, g, c2, List.replicate g 0⟩] 22 2 rfl (by omega) (fun p hp => by
    simp only [List.mem_cons, List.not_mem_nil, or_false] at hp
    rcases hp with rfl | rfl
    · exact ⟨HX.out.below HB1.out, hb⟩
    · exact ⟨hs2, Byt.replicate g⟩)
  simp only [Value.slice.injEq] at hv2
  obtain ⟨rfl, _, rfl⟩ := hv2
  have HP := Lib.hid hP
  have hlen : tot [⟨a, n, c, zs⟩, ⟨some ⟨w.heap.size, 0, none⟩, g, g, List.replicate g 0⟩] = n + g := by simp [tot]
  have hcat : cat [⟨a, n, c, zs⟩, ⟨some ⟨w.heap.size, 0, none⟩, g, g, List.replicate g 0⟩] = zs ++ List.replicate g 0 := by simp [cat]
  have HL := Lib.hid hlen
  have HC := Lib.hid hcat
  clear hown1 e1 hs2 hP hlen hcat HO
  go_wp2_with fail
  refine (concat_any _ _ _ _ _ HP.out (by rw [HL.out]; omega)).mono ?_
  rintro e w2 ⟨v, rfl, hown2, hb2⟩
  rw [HL.out, HC.out] at hown2
  have HO2 := Lib.hid (own_base hown2 (base' := w.heap.size) (by simp; omega))
  have HB2 := Lib.hid ((HB1.out.alloc (by omega) _).trans (hb2.mono (by simp; omega)))
  clear hown2 hb2
  go_wp2
  go_ret
  exact ⟨_, rfl, HO2.out, HB2.out⟩

/-- ref.Bytes: zeros are appended till the length is a multiple of 4 -/
theorem refbytes_any (a : Option Addr) (n c : Nat) (zs : List Int) (w : World) (hx : Ints .u8 w a n c zs) (hn : n ≤ 549755813888) :
    Calls Tryd.prog 28 #[.slice a n c] w fun e w' => ∃ v, e = .returned v ∧ w'.ownsRow w.heap.size 5 1 v (n + (gap n).toNat) ((zs ++ List.replicate (gap n).toNat 0).map (Value.int .u8)) ∧ Below w.heap.size w w' := by
  obtain ⟨i0, hi, hz0, hz1, hz2⟩ := info_parts info5
  have hgb := gap_bd n
  obtain ⟨g, hg⟩ := Int.eq_ofNat_of_zero_le hgb.1
  have HG := Lib.hid hg
  have hl1 := Lib.hid hx.len
  have hc1 := hx.cap
  rw [hg, Int.toNat_natCast]
  have HX := Lib.hid hx
  have hown0 : (w.alloc (.cells #[] 5)).ownsRow w.heap.size 5 1 (.slice (some ⟨w.heap.size, 0, none⟩) 0 0) 0 [] := World.ownsRow_made w #[] 0 (Nat.le_refl _) (by decide) rfl
  have HO0 := Lib.hid hown0
  have HX0 := Lib.hid (hx.below ((Below.refl _ _).alloc (Nat.le_refl _) (.cells #[] 5)))
  clear hg hx hgb hown0
  go_enter Tryd.func28, Tryd.ntmps28
  go_wp2_with (at_builtin; refine append_own_any _ rfl _ _ 22 rfl w.heap.size 5 i0 (.int .u8 0) 1 Tryd.underlying22 hi hz0 hz1 hz2 rfl _ _ _ rfl HO0.out _ _ _ (zs.map (Value.int .u8)) rfl HX0.out (ints_oneCell _ _) (by unfold maxLen; omega) (by omega) (by simp) ?_; intro v w1 HO1 hgrow)
  have HO : Hid (w1.ownsRow w.heap.size 5 1 v n (zs.map (Value.int .u8))) := by simpa using HO1
  have HB1 := Lib.hid (((Below.refl _ w).alloc (Nat.le_refl _) (.cells #[] 5)).grown hgrow.out (by simp) (fun k' hk' => (HO0.out.lt k' hk').1))
  clear HO1 hgrow
  obtain ⟨a', c', hv', _⟩ := Sl.own HO.out
  subst hv'
  have h00 : Hid (w1.ownsRow w.heap.size 5 1 (.slice a' n c') (n + 0) ((zs ++ List.replicate 0 0).map (Value.int .u8))) := by simpa using HO
  clear HO0 HX0
  go_wp2
  go_loopw [3] (fun v wr => ∃ k : Nat, k ≤ g ∧ ∃ a' c', v = .slice a' (n + k) c' ∧ wr.ownsRow w.heap.size 5 1 v (n + k) ((zs ++ List.replicate k 0).map (Value.int .u8)) ∧ Below w.heap.size w wr)
    (fun v _ => g + n - (match v with | .slice _ m _ => m | _ => 0))
  case atStart => exact ⟨0, Nat.zero_le _, a', c', rfl, h00.out, HB1.out⟩
  case round =>
    clear h00 HB1
    obtain ⟨k, hk, a', c', rfl, hown, hbw⟩ := hrel
    have HO := Lib.hid hown
    have HWr := Lib.hid hbw
    have hszr : w.heap.size ≤ wr.heap.size := hbw.size
    have hg4 := gap_bd n
    have HGo := HG.out
    have hg5 : g < 4 := by omega
    clear hown hbw
    by_cases hlt : k < g
    · have hz : ¬ ((n : Int) + (k : Int)) % 4 = 0 := fun h => by have := gap_stop n k (by omega) (by omega) h; omega
      have hb' : (((n : Int) + (k : Int)) % 4 != 0) = true := by simp [hz]
      clear hz HGo
      go_wp2_with (at_builtin; refine append_own_any _ rfl _ _ 22 rfl w.heap.size 5 i0 (.int .u8 0) 1 Tryd.underlying22 hi hz0 hz1 hz2 rfl _ _ _ rfl (HO.out.alloc _) _ _ _ [.int .u8 0] rfl (Sl.new wr [.int .u8 0] 5 1 rfl (by omega)) (ints_oneCell .u8 [0]) (by unfold maxLen; omega) (by omega) (by simp; omega) ?_; intro v' w2 hown1 hgrow)
      have hown' := hown1.out
      have e1 : (zs ++ List.replicate k 0).map (Value.int .u8) ++ [.int .u8 0] = (zs ++ List.replicate (k + 1) 0).map (Value.int .u8) := by
        rw [List.replicate_succ', ← List.append_assoc, List.map_append (l₁ := zs ++ List.replicate k 0)]; rfl
      rw [e1] at hown'
      obtain ⟨a3, c3, hv3, _⟩ := Sl.own hown'
      subst hv3
      have HO2 := Lib.hid hown'
      have HW2 := Lib.hid ((HWr.out.alloc hszr (.cells #[.int .u8 0] 5)).grown hgrow.out (by simp; omega) (fun k' hk' => (HO.out.lt k' hk').1))
      clear hown' hown1 hgrow e1 HO HWr
      go_wp2
      go_roundw
      case rel => exact ⟨k + 1, by omega, _, _, rfl, HO2.out, HW2.out⟩
      case measure => simp; omega
    · obtain rfl : k = g := by omega
      have hz : ((n : Int) + (k : Int)) % 4 = 0 := by
        have : gap n = (k : Int) := HG.out
        unfold gap at this
        omega
      have hb' : (((n : Int) + (k : Int)) % 4 != 0) = false := by simp [hz]
      clear hz HGo
      go_wp2
      go_ret
      exact ⟨_, rfl, HO.out, HWr.out⟩

end Go.Proofs.YtpccbnlbonjklaaDoor.Pd

/- The walk of WireMatchesReference. -/
import Derived.Test.YtoldkoeijgnflaaScr
namespace Go.Proofs.Ytoldkoeijgnflaa
open Go.RowKit

theorem refnumber_any (a : Option Addr) (n c : Nat) (zs : List Int) (p : Nat) (k : Int) (w : World) (hx : Ints .u8 w a n c zs) (hb : Byt zs) (hp : p ≤ n) (hn : n ≤ 1099511627776) :
    Calls Try.prog 12 #[.slice a n c, .int .i64 p, .int .i64 k] w fun e w' => e = .returned (.tuple #[.int .u32 (numN zs n p k), .bool (numB n p k)]) ∧ w = w' := by
  unfold numN
  cases h : numB n p k with
  | false =>
    have h2 : rightB k = false ∨ rightB k = true ∧ (n : Int) < (p : Int) + k ∧ n ≤ 1099511627776 := by
      unfold numB at h
      cases hr : rightB k with
      | false => exact .inl rfl
      | true => rw [hr] at h; simp at h; exact .inr ⟨rfl, by omega, hn⟩
    simpa using refnumber_no a n c p k w hp h2
  | true =>
    obtain ⟨m, rfl, h1, h2⟩ := numB_yes h
    simpa using refnumber_yes a n c zs p m w hx hb hp h1 h2

/-- reads: a slice of pairs -/
def Ops (w : World) (a : Option Addr) (n : Nat) (ks ns : List Int) : Prop :=
  ks.length = n ∧ ns.length = n ∧ ∃ b off, (a = some ⟨b, off, none⟩ ∨ n ≤ 0) ∧ ∀ j, j < n → b < w.heap.size ∧ w.cell? ⟨b, off + j * 2, none⟩ = some (.int .i64 (nth ks j)) ∧ w.cell? ⟨b, off + j * 2 + 1, none⟩ = some (.int .i64 (nth ns j))

set_option maxRecDepth 100000 in
set_option maxHeartbeats 8000000 in
theorem walk_WireMatches (a : Option Addr) (n c : Nat) (zs : List Int) (al : Option Addr) (m cl : Nat) (ks ns : List Int) (w : World) (hx : Ints .u8 w a n c zs) (hb : Byt zs) (ho : Ops w al m ks ns) (hmc : m ≤ cl ∧ cl ≤ 9223372036854775807) :
    Calls Try.prog 3 #[.slice a n c, .slice al m cl] w fun e w' => e = .returned (.bool true) ∧ Below w.heap.size w w' := by
  have hc := hx.cap
  have hl := hx.len
  have HX := Lib.hid hx
  have HZ := Lib.hid hb
  clear hx hb
  by_cases hbig : 300 < n ∨ 100 < m
  · clear ho
    rcases Nat.lt_or_ge 300 n with hb1 | hb1
    · clear hbig
      go_enter Try.func3, Try.ntmps3
      go_wp2_with fail
      refine (awake_any _).mono ?_
      rintro e w1 ⟨rfl, hb1⟩
      have HB1 := Lib.hid hb1
      clear hb1
      go_wp2_with fail
      refine (awake_any _).mono ?_
      rintro e w2 ⟨rfl, hb2⟩
      have HB2 := Lib.hid (HB1.out.trans (hb2.mono HB1.out.size))
      clear hb2
      go_wp2
      go_ret
      exact ⟨rfl, HB2.out⟩
    · have hm100 : 100 < m := by omega
      clear hbig
      go_enter Try.func3, Try.ntmps3
      go_wp2_with fail
      refine (awake_any _).mono ?_
      rintro e w1 ⟨rfl, hb1⟩
      have HB1 := Lib.hid hb1
      clear hb1
      go_wp2_with fail
      refine (awake_any _).mono ?_
      rintro e w2 ⟨rfl, hb2⟩
      have HB2 := Lib.hid (HB1.out.trans (hb2.mono HB1.out.size))
      clear hb2
      go_wp2
      go_ret
      exact ⟨rfl, HB2.out⟩
  · have hn300 : n ≤ 300 := by omega
    have hm100 : m ≤ 100 := by omega
    obtain ⟨hk1, hk2, bo, oo, hao, hops⟩ := ho
    have HO := Lib.hid hops
    have HL := Lib.hid hl
    clear hbig hops hl hk1 hk2
    obtain ⟨i0, hi, hz0, hz1, hz2⟩ := info_parts info_u8
    go_enter Try.func3, Try.ntmps3
    go_wp2_with fail
    refine (awake_any _).mono ?_
    rintro e w1 ⟨rfl, hb1⟩
    have HB1 := Lib.hid hb1
    have hs1 := hb1.size
    have HX1 := Lib.hid (HX.out.below (hb1.alloc hs1 (.cells #[] 5)))
    have hown0 : (w1.alloc (.cells #[] 5)).ownsRow w1.heap.size 5 1 (.slice (some ⟨w1.heap.size, 0, none⟩) 0 0) 0 [] := World.ownsRow_made w1 #[] 0 (Nat.le_refl _) (by decide) rfl
    have HO0 := Lib.hid hown0
    clear hb1 hown0
    go_wp2_with (at_builtin; refine append_own_any _ rfl _ _ 22 rfl w1.heap.size 5 i0 (.int .u8 0) 1 Try.underlying22 hi hz0 hz1 hz2 rfl _ _ _ rfl HO0.out _ _ _ (zs.map (Value.int .u8)) rfl HX1.out (ints_oneCell _ _) (by unfold maxLen; omega) (by omega) (by simp) ?_; intro v w2 HO1 hgrow)
    have hown : w2.ownsRow w1.heap.size 5 1 v n (zs.map (Value.int .u8)) := by simpa using HO1.out
    have hb2 := ((Below.refl _ w1).alloc (Nat.le_refl _) (.cells #[] 5)).grown hgrow.out (by simp) (fun k' hk' => (HO0.out.lt k' hk').1)
    have HB2 := Lib.hid (HB1.out.trans (hb2.mono hs1))
    have hs2 := HB2.out.size
    have hs12 : w1.heap.size ≤ w2.heap.size := hb2.size
    obtain ⟨a2, c2, hv2, _⟩ := Sl.own hown
    subst hv2
    have HOW := Lib.hid hown
    clear HO1 hgrow HO0 HX1 hb2 hown
    go_wp2_with fail
    refine (new_any _ _ _ _ _ (ints_own HOW.out) HZ.out (by omega)).mono ?_
    rintro e w3 ⟨bc, a3, c3, rfl, hbc, hcur, hb3, hge⟩
    have HC3 := Lib.hid hcur
    have HB3 := Lib.hid (HB2.out.trans (hb3.mono hs2))
    have HOW3 := Lib.hid (own_below HOW.out hb3)
    have HLT := Lib.hid (own_lt HOW.out)
    have HGE := Lib.hid hge
    have hbw : w.heap.size ≤ bc := by omega
    have hc2 := (ints_own HOW.out).cap
    clear hcur hb3 HOW hge
    obtain ⟨g, og, hga, hgc⟩ := (ints_own HOW3.out).loc
    have HGC := Lib.hid hgc
    clear hgc
    go_wp2
    go_loopw [7] (fun i wr => ∃ j : Nat, j ≤ n ∧ i = .int .i64 j ∧ Scr (fun x => w1.heap.size ≤ x ∧ x < w2.heap.size) w3 wr) (fun i _ => n - (intOf i).toNat)
    case atStart => exact ⟨0, Nat.zero_le _, rfl, Scr.refl _ _⟩
    case round =>
      obtain ⟨j, hj, rfl, hsc⟩ := hrel
      have HS := Lib.hid hsc
      clear hsc
      by_cases hlt : j < n
      · obtain rfl : a2 = some ⟨g, og, none⟩ := by rcases hga with h | h; exact h; exact absurd h (by omega)
        have hzb := HZ.out.nth j
        obtain ⟨z, hz, hzb0, hzb1⟩ := HS.out.cell g (og + j) (nth zs j) (HGC.out j hlt).2 hzb.1 hzb.2
        have hfr : wr.frozen? ⟨g, og + j, none⟩ = false := (HS.out.frozen _).trans ((own_frozen HOW3.out _ rfl).2 _)
        have hg1 : w1.heap.size ≤ g ∧ g < w2.heap.size := ⟨(own_frozen HOW3.out _ rfl).1, HLT.out _ rfl⟩
        clear hga
        go_wp2
        go_roundw
        case rel => exact ⟨j + 1, by omega, by go_num, HS.out.set (b := g) (o := og + j) hg1 hz (by omega) (by omega)⟩
        case measure => simp [intOf]; omega
      · have hD3 := Lib.hid (show Below w.heap.size w wr from HB3.out.trans (HS.out.below (fun k hk => by omega)))
        have HC4 := Lib.hid (cur_scr HS.out HC3.out (by omega) (fun x hx => by have := HGE.out x hx; omega))
        clear hga HGC HS HC3 HB3 HOW3
        go_wp2
        go_loopw [8, 9] (fun pv i wr => ∃ j p : Nat, j ≤ m ∧ i = .int .i64 j ∧ pv = .int .i64 p ∧ Cur wr bc a3 n c3 p zs ∧ Below w.heap.size w wr) (fun _ i _ => m - (intOf i).toNat)
        case atStart => exact ⟨0, 0, Nat.zero_le _, rfl, rfl, HC4.out, hD3.out⟩
        case round =>
          clear HC4 hD3
          obtain ⟨j, p, hj, rfl, rfl, hcur, hbw2⟩ := hrel
          have HCr := Lib.hid hcur
          have HBr := Lib.hid hbw2
          have hpn := hcur.le
          have hcr := hcur.ints.cap
          clear hcur hbw2
          by_cases hlt : j < m
          · obtain rfl : al = some ⟨bo, oo, none⟩ := by rcases hao with h | h; exact h; exact absurd h (by omega)
            clear hao
            have hck := (HBr.out.cell (p := ⟨bo, oo + j * 2, none⟩) (HO.out j hlt).1).trans (HO.out j hlt).2.1
            have hcn := (HBr.out.cell (p := ⟨bo, oo + j * 2 + 1, none⟩) (HO.out j hlt).1).trans (HO.out j hlt).2.2
            obtain ⟨kd, hkd⟩ : ∃ kd, kd = nth ks j := ⟨_, rfl⟩
            obtain ⟨k, hk⟩ : ∃ k, k = nth ns j := ⟨_, rfl⟩
            rw [← hkd] at hck
            rw [← hk] at hcn
            clear hkd hk
            by_cases h0 : kd = 0
            · subst h0
              by_cases hok : 0 ≤ k ∧ k ≤ (n : Int) - (p : Int)
              · obtain ⟨t, rfl⟩ : ∃ t : Nat, k = t := ⟨k.toNat, by omega⟩
                have dA : decide ((0 : Int) ≤ (t : Int)) = true := by simp
                have dB : decide ((t : Int) ≤ (n : Int) - (p : Int)) = true := by simp; omega
                have htp : p + t ≤ n := by omega
                go_wp2_with fail
                refine (take_yes _ _ _ _ _ t _ _ HCr.out htp).mono ?_
                rintro e wT ⟨aT, cT, rfl, hown, hcx, hbt⟩
                have HOT := Lib.hid hown
                have HCT := Lib.hid hcx
                have HBT := Lib.hid (HBr.out.trans (hbt.below (by omega) HBr.out.size))
                have hbcr := HCr.out.size
                have HNr := Lib.hid HCr.out.ne
                have hwr := HBr.out.size
                obtain ⟨Bw, hBw⟩ : ∃ Bw, Bw = wr.heap.size := ⟨_, rfl⟩
                rw [← hBw] at HOT hbcr hwr
                clear hown hcx hbt HCr HBr hok hBw
                by_cases hcp : c = p
                · have HSub : Hid (Ints .u8 wT a t 0 ((zs.drop p).take t)) := by
                    have h5 := (HX.out.below HBT.out).sub_end (lo := p) (hi := p + t) (by omega) htp hcp
                    rw [show p + t - p = t by omega, List.drop_take, show p + t - p = t by omega] at h5
                    exact h5
                  have hcp' := hcp.symm
                  subst hcp'
                  go_wp2_with fail
                  refine (same_any _ _ _ _ _ _ _ _ _ (ints_own HOT.out) HSub.out).mono ?_
                  rintro e wS ⟨rfl, hbS⟩
                  rw [eqL_true rfl]
                  have HOS := Lib.hid (own_below HOT.out hbS)
                  have HCS := Lib.hid (HCT.out.below hbS)
                  have HBS := Lib.hid (HBT.out.trans (hbS.mono HBT.out.size))
                  clear hbS HOT HCT HBT HSub
                  obtain ⟨gs, os, hgs, hgcs⟩ := (ints_own HOS.out).loc
                  have HGS := Lib.hid hgcs
                  have htc := (ints_own HOS.out).cap
                  have HZt := Lib.hid ((HZ.out.drop p).take t)
                  clear hgcs
                  go_wp2
                  go_loopw [13] (fun i wr2 => ∃ q : Nat, q ≤ t ∧ i = .int .i64 q ∧ Scr (fun x => Bw ≤ x) wS wr2) (fun i _ => t - (intOf i).toNat)
                  case atStart => exact ⟨0, Nat.zero_le _, rfl, Scr.refl _ _⟩
                  case round =>
                    obtain ⟨q, hq, rfl, hsc⟩ := hrel
                    have HS := Lib.hid hsc
                    clear hsc
                    by_cases hqt : q < t
                    · exfalso; omega
                    · have HBx := Lib.hid (HBS.out.trans (HS.out.below (B := w.heap.size) (fun k hk => by omega)))
                      have HCx := Lib.hid (cur_scr HS.out HCS.out (by omega) (fun x hx => by have := HNr.out x hx; omega))
                      clear hgs HGS HS HCS HBS HOS
                      have eL : (((n - (p + t) : Nat) : Int) != (n : Int) - (((p + t) : Nat) : Int)) = false := by simp; omega
                      go_wp2_with fail
                      refine (at_any _ _ _ _ _ _ _ HCx.out).mono ?_
                      rintro e w' ⟨rfl, rfl⟩
                      go_wp2_with fail
                      refine (left_any _ _ _ _ _ _ _ HCx.out).mono ?_
                      rintro e wY ⟨rfl, q, rfl⟩
                      go_wp2
                      go_roundw
                      case rel => exact ⟨j + 1, (p + t), by omega, by go_num, by go_num, HCx.out.below (below_drewN (Below.refl _ _) q), below_drewN HBx.out q⟩
                      case measure => simp [intOf]; omega
                · have HSub : Hid (Ints .u8 wT (Option.map (fun x => x.add p) a) t (c - p) ((zs.drop p).take t)) := by
                    have h5 := (HX.out.below HBT.out).sub (lo := p) (hi := p + t) (by omega) htp
                    rw [show p + t - p = t by omega, List.drop_take, show p + t - p = t by omega] at h5
                    exact h5
                  go_wp2_with fail
                  refine (same_any _ _ _ _ _ _ _ _ _ (ints_own HOT.out) HSub.out).mono ?_
                  rintro e wS ⟨rfl, hbS⟩
                  rw [eqL_true rfl]
                  have HOS := Lib.hid (own_below HOT.out hbS)
                  have HCS := Lib.hid (HCT.out.below hbS)
                  have HBS := Lib.hid (HBT.out.trans (hbS.mono HBT.out.size))
                  clear hbS HOT HCT HBT HSub
                  obtain ⟨gs, os, hgs, hgcs⟩ := (ints_own HOS.out).loc
                  have HGS := Lib.hid hgcs
                  have htc := (ints_own HOS.out).cap
                  have HZt := Lib.hid ((HZ.out.drop p).take t)
                  clear hgcs
                  go_wp2
                  go_loopw [13] (fun i wr2 => ∃ q : Nat, q ≤ t ∧ i = .int .i64 q ∧ Scr (fun x => Bw ≤ x) wS wr2) (fun i _ => t - (intOf i).toNat)
                  case atStart => exact ⟨0, Nat.zero_le _, rfl, Scr.refl _ _⟩
                  case round =>
                    obtain ⟨q, hq, rfl, hsc⟩ := hrel
                    have HS := Lib.hid hsc
                    clear hsc
                    by_cases hqt : q < t
                    · obtain rfl : aT = some ⟨gs, os, none⟩ := by rcases hgs with h | h; exact h; exact absurd h (by omega)
                      have hzb := HZt.out.nth q
                      obtain ⟨z, hz, hzb0, hzb1⟩ := HS.out.cell gs (os + q) _ (HGS.out q hqt).2 hzb.1 hzb.2
                      have hfr := (HS.out.frozen ⟨gs, os + q, none⟩).trans ((own_frozen HOS.out _ rfl).2 _)
                      have hg1 : Bw ≤ gs := (own_frozen HOS.out _ rfl).1
                      clear hgs
                      go_wp2
                      go_roundw
                      case rel => exact ⟨q + 1, by omega, by go_num, HS.out.set (b := gs) (o := os + q) hg1 hz (by omega) (by omega)⟩
                      case measure => simp [intOf]; omega
                    · have HBx := Lib.hid (HBS.out.trans (HS.out.below (B := w.heap.size) (fun k hk => by omega)))
                      have HCx := Lib.hid (cur_scr HS.out HCS.out (by omega) (fun x hx => by have := HNr.out x hx; omega))
                      clear hgs HGS HS HCS HBS HOS
                      have eL : (((n - (p + t) : Nat) : Int) != (n : Int) - (((p + t) : Nat) : Int)) = false := by simp; omega
                      go_wp2_with fail
                      refine (at_any _ _ _ _ _ _ _ HCx.out).mono ?_
                      rintro e w' ⟨rfl, rfl⟩
                      go_wp2_with fail
                      refine (left_any _ _ _ _ _ _ _ HCx.out).mono ?_
                      rintro e wY ⟨rfl, q, rfl⟩
                      go_wp2
                      go_roundw
                      case rel => exact ⟨j + 1, (p + t), by omega, by go_num, by go_num, HCx.out.below (below_drewN (Below.refl _ _) q), below_drewN HBx.out q⟩
                      case measure => simp [intOf]; omega
              · rcases Int.lt_or_le k 0 with hk0 | hk0
                · have dA : decide ((0 : Int) ≤ k) = false := by simp; omega
                  clear hok
                  go_wp2_with fail
                  refine (take_no _ _ _ _ _ _ _ _ HCr.out (by omega)).mono ?_
                  rintro e wT ⟨rfl, qT, rfl⟩
                  have HCx := Lib.hid (HCr.out.below (below_drewN (Below.refl _ _) qT))
                  have HBx := Lib.hid (below_drewN HBr.out qT)
                  obtain ⟨wN, hwN⟩ : ∃ wN, wr.drewN qT = wN := ⟨_, rfl⟩
                  rw [hwN] at HCx HBx ⊢
                  clear hwN HCr HBr
                  go_wp2
                  refine wp_loop_rounds 1 ?_
                  rw [rounds_succ]
                  have eL : (((n - p : Nat) : Int) != (n : Int) - ((p : Nat) : Int)) = false := by simp; omega
                  go_wp2_with fail
                  refine (at_any _ _ _ _ _ _ _ HCx.out).mono ?_
                  rintro e w' ⟨rfl, rfl⟩
                  go_wp2_with fail
                  refine (left_any _ _ _ _ _ _ _ HCx.out).mono ?_
                  rintro e wY ⟨rfl, q, rfl⟩
                  go_wp2
                  go_roundw
                  case rel => exact ⟨j + 1, p, by omega, by go_num, by go_num, HCx.out.below (below_drewN (Below.refl _ _) q), below_drewN HBx.out q⟩
                  case measure => simp [intOf]; omega
                · have dA : decide ((0 : Int) ≤ k) = true := by simp; omega
                  have dB : decide (k ≤ (n : Int) - (p : Int)) = false := by simp; omega
                  have hk1 : (n : Int) - (p : Int) < k := by omega
                  clear hok
                  go_wp2_with fail
                  refine (take_no _ _ _ _ _ _ _ _ HCr.out (by omega)).mono ?_
                  rintro e wT ⟨rfl, qT, rfl⟩
                  have HCx := Lib.hid (HCr.out.below (below_drewN (Below.refl _ _) qT))
                  have HBx := Lib.hid (below_drewN HBr.out qT)
                  obtain ⟨wN, hwN⟩ : ∃ wN, wr.drewN qT = wN := ⟨_, rfl⟩
                  rw [hwN] at HCx HBx ⊢
                  clear hwN HCr HBr
                  go_wp2
                  refine wp_loop_rounds 1 ?_
                  rw [rounds_succ]
                  have eL : (((n - p : Nat) : Int) != (n : Int) - ((p : Nat) : Int)) = false := by simp; omega
                  go_wp2_with fail
                  refine (at_any _ _ _ _ _ _ _ HCx.out).mono ?_
                  rintro e w' ⟨rfl, rfl⟩
                  go_wp2_with fail
                  refine (left_any _ _ _ _ _ _ _ HCx.out).mono ?_
                  rintro e wY ⟨rfl, q, rfl⟩
                  go_wp2
                  go_roundw
                  case rel => exact ⟨j + 1, p, by omega, by go_num, by go_num, HCx.out.below (below_drewN (Below.refl _ _) q), below_drewN HBx.out q⟩
                  case measure => simp [intOf]; omega
            · have e0 : (kd == 0) = false := by simp [h0]
              by_cases h1 : kd = 1
              · subst h1
                clear h0
                go_wp2_with fail
                refine (number_any _ _ _ _ _ _ _ _ HCr.out).mono ?_
                rintro e wN ⟨rfl, hcx, hbt⟩
                have HCx := Lib.hid hcx
                have HBx := Lib.hid (HBr.out.trans (hbt.below (by omega) HBr.out.size))
                have hpx := hcx.le
                clear hcx hbt HCr HBr
                go_wp2_with fail
                refine (refnumber_any _ _ _ _ _ _ _ (HX.out.below HBx.out) HZ.out hpn (by omega)).mono ?_
                rintro e w' ⟨rfl, rfl⟩
                unfold numA at HCx hpx
                obtain ⟨N, hN⟩ : ∃ N, N = numN zs n p k := ⟨_, rfl⟩
                rw [← hN]
                clear hN
                cases hnb : numB n p k with
                | false =>
                  rw [hnb] at HCx hpx
                  simp only [Bool.false_eq_true, if_false] at HCx hpx
                  have eL : (((n - p : Nat) : Int) != (n : Int) - ((p : Nat) : Int)) = false := by simp; omega
                  go_wp2_with fail
                  refine (at_any _ _ _ _ _ _ _ HCx.out).mono ?_
                  rintro e w' ⟨rfl, rfl⟩
                  go_wp2_with fail
                  refine (left_any _ _ _ _ _ _ _ HCx.out).mono ?_
                  rintro e wY ⟨rfl, q, rfl⟩
                  go_wp2
                  go_roundw
                  case rel => exact ⟨j + 1, p, by omega, by go_num, by go_num, HCx.out.below (below_drewN (Below.refl _ _) q), below_drewN HBx.out q⟩
                  case measure => simp [intOf]; omega
                | true =>
                  obtain ⟨t, rfl, ht1, ht2⟩ := numB_yes hnb
                  rw [hnb] at HCx hpx
                  simp only [if_true, Int.toNat_natCast] at HCx hpx
                  have eL : (((n - (p + t) : Nat) : Int) != (n : Int) - (((p + t) : Nat) : Int)) = false := by simp; omega
                  go_wp2_with fail
                  refine (at_any _ _ _ _ _ _ _ HCx.out).mono ?_
                  rintro e w' ⟨rfl, rfl⟩
                  go_wp2_with fail
                  refine (left_any _ _ _ _ _ _ _ HCx.out).mono ?_
                  rintro e wY ⟨rfl, q, rfl⟩
                  go_wp2
                  go_roundw
                  case rel => exact ⟨j + 1, (p + t), by omega, by go_num, by go_num, HCx.out.below (below_drewN (Below.refl _ _) q), below_drewN HBx.out q⟩
                  case measure => simp [intOf]; omega
              · have e1 : (kd == 1) = false := by simp [h1]
                clear h0 h1
                go_wp2_with fail
                refine (peek_any _ _ _ _ _ _ _ _ HCr.out).mono ?_
                rintro e wN ⟨rfl, hbt⟩
                have HCx := Lib.hid (HCr.out.below hbt)
                have HBx := Lib.hid (HBr.out.trans (hbt.mono HBr.out.size))
                clear hbt HCr HBr
                go_wp2_with fail
                refine (refnumber_any _ _ _ _ _ _ _ (HX.out.below HBx.out) HZ.out hpn (by omega)).mono ?_
                rintro e w' ⟨rfl, rfl⟩
                obtain ⟨N, hN⟩ : ∃ N, N = numN zs n p k := ⟨_, rfl⟩
                obtain ⟨b, hb⟩ : ∃ b, b = numB n p k := ⟨_, rfl⟩
                rw [← hN, ← hb]
                clear hN hb
                have eL : (((n - p : Nat) : Int) != (n : Int) - ((p : Nat) : Int)) = false := by simp; omega
                go_wp2_with fail
                refine (at_any _ _ _ _ _ _ _ HCx.out).mono ?_
                rintro e w' ⟨rfl, rfl⟩
                go_wp2_with fail
                refine (left_any _ _ _ _ _ _ _ HCx.out).mono ?_
                rintro e wY ⟨rfl, q, rfl⟩
                go_wp2
                go_roundw
                case rel => exact ⟨j + 1, p, by omega, by go_num, by go_num, HCx.out.below (below_drewN (Below.refl _ _) q), below_drewN HBx.out q⟩
                case measure => simp [intOf]; omega
          · have hjm : j = m := by omega
            clear hlt
            subst hjm
            go_wp2
            go_ret
            exact ⟨rfl, HBr.out⟩

end Go.Proofs.Ytoldkoeijgnflaa

/- Same of frames; told. -/
import Derived.Test.YtpccbnlbonjklaaDoorTlv5
import Derived.Deep.QuietTactic
import Derived.BigQuiet
namespace Go.Proofs.YtpccbnlbonjklaaDoor
set_option maxRecDepth 100000
open Go.RowKit

/-- ref.Same: whether two slices read the same -/
theorem same_q (a b : Option Addr) (n c m d : Nat) (xs ys : List Int) (w : World) (hx : Ints .u8 w a n c xs) (hy : Ints .u8 w b m d ys) :
    Calls Tryd.prog 13 #[.slice a n c, .slice b m d] w fun e w' => e = .returned (.bool (eqL xs ys)) ∧ ∃ q, w' = w.drewN q := by
  have hl1 := hx.len
  have hl2 := hy.len
  have hc1 := hx.cap
  have hc2 := hy.cap
  by_cases hnm : n = m
  · subst hnm
    rcases hx.cells with ⟨rfl, rfl⟩ | ⟨b1, o1, rfl, hb1, hn, hcx⟩
    · obtain rfl : ys = [] := List.length_eq_zero_iff.1 hl2
      clear hx hy hl1 hl2
      go_enter Tryd.func13, Tryd.ntmps13
      go_wp2
      go_rounds 1
      all_goals go_ret
      all_goals exact ⟨rfl, 0, rfl⟩
    · rcases hy.cells with ⟨rfl, rfl⟩ | ⟨b2, o2, rfl, hb2, hn2, hcy⟩
      · omega
      · have HX := Lib.hid hcx
        have HY := Lib.hid hcy
        have L1 := Lib.hid hl1
        have L2 := Lib.hid hl2
        clear hx hy hcx hcy hl1 hl2
        go_enter Tryd.func13, Tryd.ntmps13
        go_wp2
        go_loopw [5] (fun i wr => ∃ k : Nat, k ≤ n ∧ i = .int .i64 k ∧ (∀ j, j < k → nth xs j = nth ys j) ∧ ∃ q, wr = w.drewN q) (fun i _ => n - (intOf i).toNat)
        case atStart => exact ⟨0, Nat.zero_le _, rfl, fun j hj => absurd hj (by omega), 0, rfl⟩
        case round =>
          obtain ⟨k, hk, rfl, heq, q, rfl⟩ := hrel
          have HE := Lib.hid heq
          clear heq
          by_cases hlt : k < n
          · have h1 := HX.out k hlt
            have h2 := HY.out k hlt
            by_cases hv : nth xs k = nth ys k
            · have hv' : (nth xs k != nth ys k) = false := by simp [hv]
              have HV := Lib.hid hv
              clear hv
              go_wp2
              go_quiet (fail)
              go_wp2
              go_roundw
              case rel =>
                refine ⟨k + 1, by omega, by go_num, fun j hj => ?_, _, rfl⟩
                by_cases e : j = k
                · rw [e]; exact HV.out
                · exact HE.out j (by omega)
              case measure => simp [intOf]; omega
            · have hv' : (nth xs k != nth ys k) = true := by simp [hv]
              have HV := Lib.hid hv
              clear hv
              go_wp2
              go_quiet (fail)
              go_wp2
              go_ret
              have hne : xs ≠ ys := fun e => HV.out (by rw [e])
              exact ⟨ret_bool (eqL_false hne).symm, _, World.drewN_drewN _ _ _⟩
          · have hkn : k = n := by omega
            have HK := Lib.hid hkn
            clear hkn
            go_wp2
            go_ret
            have he : xs = ys := ext_nth (by rw [L1.out, L2.out]) (fun j hj => HE.out j (by rw [HK.out, ← L1.out]; exact hj))
            exact ⟨ret_bool (eqL_true he).symm, _, rfl⟩
  · have hnm' : ((n : Int) != (m : Int)) = true := by simp; omega
    have hne : xs ≠ ys := fun e => hnm (by rw [← hl1, ← hl2, e])
    have HN := Lib.hid hne
    clear hx hy hl1 hl2 hne
    go_enter Tryd.func13, Tryd.ntmps13
    go_wp2
    go_ret
    exact ⟨ret_bool (eqL_false HN.out).symm, 0, rfl⟩

theorem msF_ne {fs gs : List Fr} {k : Nat} (h1 : k < fs.length) (h2 : k < gs.length) (h : (fr fs k).m ≠ (fr gs k).m) : msF fs ≠ msF gs := fun e => h (by
  have := congrArg (fun l => l[k]?) e
  simp only [msF, List.getElem?_map, List.getElem?_eq_getElem h1, List.getElem?_eq_getElem h2, Option.map_some, Option.some.injEq] at this
  rw [fr_lt h1, fr_lt h2]
  exact this)
theorem msF_eq {fs gs : List Fr} (hl : fs.length = gs.length) (h : ∀ j, j < fs.length → (fr fs j).m = (fr gs j).m) : msF fs = msF gs := by
  refine List.ext_getElem (by simp [msF, hl]) (fun j h1 h2 => ?_)
  have h3 : j < fs.length := by simpa [msF] using h1
  have := h j h3
  rw [fr_lt h3, fr_lt (by omega)] at this
  simpa [msF] using this
theorem msF_len {fs gs : List Fr} (h : msF fs = msF gs) : fs.length = gs.length := by
  have := congrArg List.length h
  simpa [msF] using this

set_option maxHeartbeats 8000000 in
theorem rsame_any (a a2 : Option Addr) (n c n2 c2 : Nat) (fs gs : List Fr) (w : World) (hx : Frs w a n c fs) (hy : Frs w a2 n2 c2 gs) :
    Calls Tryd.prog 11 #[.slice a n c, .slice a2 n2 c2] w fun e w' => e = .returned (.bool (decide (msF fs = msF gs))) ∧ Below w.heap.size w w' := by
  obtain ⟨b1, o1, ha1, hc1⟩ := hx.loc
  obtain ⟨b2, o2, ha2, hc2⟩ := hy.loc
  obtain ⟨R, hR⟩ : ∃ R, R = decide (msF fs = msF gs) := ⟨_, rfl⟩
  rw [← hR]
  have HR := Lib.hid hR
  have HC1 := Lib.hid hc1
  have HC2 := Lib.hid hc2
  have HX := Lib.hid hx
  have HY := Lib.hid hy
  have hcc1 := hx.cap
  have hcc2 := hy.cap
  clear hc1 hc2 hx hy hR
  by_cases hnn : n = n2
  · subst hnn
    have hd : ((n : Int) != (n : Int)) = false := by simp
    go_enter Tryd.func11, Tryd.ntmps11
    go_wp2
    go_loopw [5] (fun i wr => ∃ k : Nat, k ≤ n ∧ i = .int .i64 k ∧ Hid (∀ j, j < k → (fr fs j).m = (fr gs j).m) ∧ Below w.heap.size w wr) (fun i _ => n - (intOf i).toNat)
    case atStart => exact ⟨0, Nat.zero_le _, rfl, Lib.hid (fun j hj => absurd hj (by omega)), Below.refl _ _⟩
    case round =>
      obtain ⟨k, hk, rfl, HE, hbw⟩ := hrel
      have HW := Lib.hid hbw
      have hsw : w.heap.size ≤ wr.heap.size := hbw.size
      clear hbw
      rcases ha1 with rfl | hn0
      all_goals rcases ha2 with rfl | hn0'
      all_goals by_cases hlt : k < n
      · have x1 := (HW.out.cell (p := ⟨b1, o1 + k * 2, none⟩) (HC1.out k hlt).1).trans (HC1.out k hlt).2.1
        have x2 := (HW.out.cell (p := ⟨b1, o1 + k * 2 + 1, none⟩) (HC1.out k hlt).1).trans (HC1.out k hlt).2.2
        have x3 := (HW.out.cell (p := ⟨b2, o2 + k * 2, none⟩) (HC2.out k hlt).1).trans (HC2.out k hlt).2.1
        have x4 := (HW.out.cell (p := ⟨b2, o2 + k * 2 + 1, none⟩) (HC2.out k hlt).1).trans (HC2.out k hlt).2.2
        have hk1 : k < fs.length := by rw [HX.out.len]; exact hlt
        have hk2 : k < gs.length := by rw [HY.out.len]; exact hlt
        have HOK1 := Lib.hid ((HX.out.2.2.2.2 _ (fr_mem hk1)).below HW.out)
        have HOK2 := Lib.hid ((HY.out.2.2.2.2 _ (fr_mem hk2)).below HW.out)
        have HNE := Lib.hid (msF_ne hk1 hk2)
        have HEX : Hid ((fr fs k).m = (fr gs k).m → ∀ j, j < k + 1 → (fr fs j).m = (fr gs j).m) := fun h j hj => by
          by_cases e : j = k
          · rw [e]; exact h
          · exact HE.out j (by omega)
        obtain ⟨f, hf⟩ : ∃ f, f = fr fs k := ⟨_, rfl⟩
        obtain ⟨g, hg⟩ : ∃ g, g = fr gs k := ⟨_, rfl⟩
        rw [← hf] at x1 x2 HOK1 HNE HEX
        rw [← hg] at x3 x4 HOK2 HNE HEX
        clear hf hg
        by_cases ht : f.t = g.t
        · have hdt : (f.t != g.t) = false := by simp [ht]
          have HT := Lib.hid ht
          clear ht
          by_cases hz : f.p.zs = g.p.zs
          · have he := eqL_true hz
            have HZ := Lib.hid hz
            clear hz
            go_wp2
            go_quiet ((go_at_call 13; refine Calls.quiet_of (same_q _ _ _ _ _ _ _ _ _ (HOK1.out.1.below (below_drewN (Below.refl _ _) _)) (HOK2.out.1.below (below_drewN (Below.refl _ _) _)))))
            go_wp2
            go_roundw
            case rel => exact ⟨k + 1, by omega, by go_num, Lib.hid (HEX.out (by rw [Fr.m, Fr.m, HT.out, HZ.out])), below_drewN HW.out _⟩
            case measure => simp [intOf]; omega
          · have he := eqL_false hz
            have HZ := Lib.hid hz
            clear hz
            go_wp2
            go_quiet ((go_at_call 13; refine Calls.quiet_of (same_q _ _ _ _ _ _ _ _ _ (HOK1.out.1.below (below_drewN (Below.refl _ _) _)) (HOK2.out.1.below (below_drewN (Below.refl _ _) _)))))
            go_wp2
            go_ret
            refine ⟨?_, below_drewN HW.out _⟩
            show Ending.returned (.bool false) = _
            rw [HR.out, decide_eq_false (HNE.out (fun e => HZ.out (congrArg Prod.snd e)))]
        · have hdt : (f.t != g.t) = true := by simp [ht]
          have HT := Lib.hid ht
          clear ht
          go_wp2
          go_quiet (fail)
          go_wp2
          go_ret
          refine ⟨?_, below_drewN HW.out _⟩
          show Ending.returned (.bool false) = _
          rw [HR.out, decide_eq_false (HNE.out (fun e => HT.out (congrArg Prod.fst e)))]
      rotate_left
      all_goals try (exact absurd hlt (by omega))
      all_goals
        have hkn : k = n := by omega
        have HK := Lib.hid hkn
        clear hkn
        go_wp2
        go_ret
        refine ⟨?_, HW.out⟩
        show Ending.returned (.bool true) = _
        rw [HR.out, decide_eq_true (msF_eq (by rw [HX.out.len, HY.out.len]) (fun j hj => HE.out j (by rw [HK.out, ← HX.out.len]; exact hj)))]
  · have hd : ((n : Int) != (n2 : Int)) = true := by simp; omega
    have HN := Lib.hid hnn
    clear hnn
    go_enter Tryd.func11, Tryd.ntmps11
    go_wp2
    go_ret
    refine ⟨?_, Below.refl _ _⟩
    show Ending.returned (.bool false) = _
    rw [HR.out, decide_eq_false (fun e => HN.out (by rw [← HX.out.len, ← HY.out.len]; exact msF_len e))]

/-! told -/
theorem told_none (w : World) (a : Int) : Calls Tryd.prog 9 #[.nilIface, .int .i64 0, .int .i64 a] w fun e w' => e = .returned (.bool true) ∧ Below w.heap.size w w' := by
  go_enter Tryd.func9, Tryd.ntmps9
  go_wp2
  go_ret
  exact ⟨rfl, Below.refl _ _⟩
theorem told_some (w : World) (c a : Int) (hg : Er.TypOk w) (hc : c ≠ 0) : Calls Tryd.prog 9 #[.iface (Er.EV.flt c a).ty (Er.EV.flt c a).body, .int .i64 c, .int .i64 a] w fun e w' => e = .returned (.bool true) ∧ Below w.heap.size w w' := by
  have HG := Lib.hid hg
  have hd : decide (c = 0) = false := decide_eq_false hc
  clear hg
  go_enter Tryd.func9, Tryd.ntmps9
  go_wp2_with fail
  refine (Er.code_any (.flt c a) _ HG.out).mono ?_
  rintro e w1 ⟨rfl, hb1⟩
  have HB1 := Lib.hid hb1
  clear hb1
  go_wp2_with fail
  refine (Er.at_any (.flt c a) _ (HG.out.below HB1.out)).mono ?_
  rintro e w2 ⟨rfl, hb2⟩
  have HB2 := Lib.hid (HB1.out.trans (hb2.mono HB1.out.size))
  clear hb2
  simp only [Er.EV.cod, Er.EV.off, Option.getD_some, Option.isSome_some]
  go_wp2
  go_ret
  exact ⟨by simp, HB2.out⟩
end Go.Proofs.YtpccbnlbonjklaaDoor

/- The walk of TlvJoins. -/
import Derived.Test.YtpccbnlbonjklaaDoorTlvP
namespace Go.Proofs.YtpccbnlbonjklaaDoor
set_option maxRecDepth 100000
set_option linter.unusedVariables false
open Go.RowKit

theorem fits_m {w : World} {fs : List Fr} (hok : ∀ f ∈ fs, f.ok w) (h : fitsF fs = true) : ∀ m ∈ msF fs, FitM m := fun m hm => by
  obtain ⟨f, hf, rfl⟩ := List.mem_map.1 hm
  have h1 := hok f hf
  have h2 := List.all_eq_true.1 h f hf
  exact ⟨h1.2.2.1, h1.2.2.2, h1.2.1, by rw [Fr.m, h1.1.len]; simpa using h2⟩
theorem few_get {fs : List Fr} (h : fewF fs = true) : fs.length ≤ 50 ∧ sumF fs ≤ 140000 := by simpa [fewF] using h

set_option maxHeartbeats 8000000 in
theorem walk_TlvJoins (a : Option Addr) (n c : Nat) (fs : List Fr) (w : World) (hg : Er.TypOk w) (hx : Frs w a n c fs) (hs : ∀ f ∈ fs, f.p.n ≤ 140737488351232) :
    Calls Tryd.prog 4 #[.slice a n c] w fun e w' => e = .returned (.bool true) ∧ Below w.heap.size w w' := by
  have HG := Lib.hid hg
  have HX := Lib.hid hx
  have hl := hx.len
  clear hg hx
  go_enter Tryd.func4, Tryd.ntmps4
  go_wp2_with fail
  refine (awake_any _ HG.out).mono ?_
  rintro e w1 ⟨rfl, hb1⟩
  have HB1 := Lib.hid hb1
  clear hb1
  go_wp2_with fail
  refine (few_any _ _ _ _ _ (HX.out.below HB1.out) hs).mono ?_
  rintro e w1' ⟨rfl, rfl⟩
  cases hfew : fewF fs with
  | false =>
    clear hfew
    go_wp2_with fail
    refine (awake_any _ (HG.out.below HB1.out)).mono ?_
    rintro e w2 ⟨rfl, hb2⟩
    have HB2 := Lib.hid (HB1.out.trans (hb2.mono HB1.out.size))
    clear hb2
    go_wp2
    go_ret
    exact ⟨rfl, HB2.out⟩
  | true =>
    have hfw := few_get hfew
    rw [hl] at hfw
    have HJL := Lib.hid (Nat.le_trans (joinL_le (w := w) fs HX.out.2.2.2.2) (show sumF fs + 7 * fs.length ≤ 1000000 by omega))
    clear hfew
    go_wp2_with fail
    refine (given_any _ _ _ _ _ (HX.out.below HB1.out) (by omega)).mono ?_
    rintro e w2 ⟨a2, c2, rfl, hf2, hb2⟩
    have HF2 := Lib.hid hf2
    have HB2 := Lib.hid (HB1.out.trans (hb2.mono HB1.out.size))
    clear hf2 hb2
    go_wp2_with fail
    refine (tJoin_any _ _ _ _ _ HF2.out (by omega) (by omega)).mono ?_
    rintro e w3 ⟨h3, hb3⟩
    have HB3 := Lib.hid (HB2.out.trans (hb3.mono HB2.out.size))
    clear hb3 HF2
    rcases h3 with ⟨hfit, a3, c3, rfl, hi3⟩ | ⟨hfit, rfl⟩
    · have HI3 := Lib.hid hi3
      clear hi3
      go_wp2_with fail
      refine (refJoin_any _ _ _ _ _ (HX.out.below HB3.out) (by omega) (by omega)).mono ?_
      rintro e w4 ⟨h4, hb4⟩
      rcases h4 with ⟨_, a4, c4, rfl, hi4⟩ | ⟨h, _⟩
      rotate_left
      · rw [hfit] at h; cases h
      have HI4 := Lib.hid hi4
      have HI3' := Lib.hid (HI3.out.below hb4)
      have HB4 := Lib.hid (HB3.out.trans (hb4.mono HB3.out.size))
      have HFIT := Lib.hid hfit
      clear hi4 hb4 HI3 hfit
      go_wp2_with fail
      refine (Wr.same_any _ _ _ _ _ _ _ _ _ HI3'.out HI4.out).mono ?_
      rintro e w5 ⟨rfl, hb5⟩
      rw [eqL_true rfl]
      have HI5 := Lib.hid (HI3'.out.below hb5)
      have HB5 := Lib.hid (HB4.out.trans (hb5.mono HB4.out.size))
      clear hb5 HI3' HI4
      go_wp2_with fail
      refine (tSplit_any _ _ _ _ _ HI5.out (joinL_byt fs HX.out.2.2.2.2) HJL.out).mono ?_
      rintro e w6 ⟨gs, r, hr, _, hb6, h6⟩
      obtain ⟨hm, rfl⟩ := (run_join (msF fs) (fits_m HX.out.2.2.2.2 HFIT.out)).same hr
      rcases h6 with ⟨_, a6, c6, rfl, hf6⟩ | ⟨_, _, h, _⟩
      rotate_left
      · cases h
      have hgl : gs.length = n := by rw [← msF_len hm]; exact hl
      rw [hgl] at hf6 ⊢
      have HF6 := Lib.hid hf6
      have HM := Lib.hid hm
      have HI6 := Lib.hid (HI5.out.below hb6)
      have HB6 := Lib.hid (HB5.out.trans (hb6.mono HB5.out.size))
      clear hf6 hb6 hr hm hgl HI5
      go_wp2_with fail
      refine (back_any _ _ _ _ _ HF6.out (by omega)).mono ?_
      rintro e w7 ⟨a7, c7, rfl, hf7, hb7⟩
      have HF7 := Lib.hid hf7
      have HI7 := Lib.hid (HI6.out.below hb7)
      have HB7 := Lib.hid (HB6.out.trans (hb7.mono HB6.out.size))
      clear hf7 hb7 HF6 HI6
      go_wp2_with fail
      refine (rsame_any _ _ _ _ _ _ _ _ _ HF7.out (HX.out.below HB7.out)).mono ?_
      rintro e w8 ⟨rfl, hb8⟩
      rw [decide_eq_true HM.out.symm]
      have HB8 := Lib.hid (HB7.out.trans (hb8.mono HB7.out.size))
      clear hb8 HF7
      go_wp2_with fail
      refine (given_any _ _ _ _ _ (HX.out.below HB8.out) (by omega)).mono ?_
      rintro e w9 ⟨a9, c9, rfl, hf9, hb9⟩
      have HF9 := Lib.hid hf9
      have HB9 := Lib.hid (HB8.out.trans (hb9.mono HB8.out.size))
      clear hf9 hb9
      go_wp2_with fail
      refine (size_any _ _ _ _ _ HF9.out (by omega) (fun f hf => ?_)).mono ?_
      · obtain ⟨k, hk, rfl⟩ := List.getElem_of_mem hf
        have := part_leF hk
        rw [fr_lt hk] at this
        omega
      rintro e wa ⟨rfl, hba⟩
      rw [szF_m HX.out.2.2.2.2, ← join_size]
      have HBA := Lib.hid (HB9.out.trans (hba.mono HB9.out.size))
      clear hba
      go_wp2
      go_ret
      exact ⟨by simp, HBA.out⟩
    · go_wp2_with fail
      refine (refJoin_any _ _ _ _ _ (HX.out.below HB3.out) (by omega) (by omega)).mono ?_
      rintro e w4 ⟨h4, hb4⟩
      rcases h4 with ⟨h, _⟩ | ⟨_, rfl⟩
      · rw [hfit] at h; cases h
      have HB4 := Lib.hid (HB3.out.trans (hb4.mono HB3.out.size))
      clear hb4 hfit
      go_wp2_with fail
      refine (Wr.same_any _ _ _ _ _ _ [] [] _ (Ints.nil _ _) (Ints.nil _ _)).mono ?_
      rintro e w5 ⟨rfl, hb5⟩
      rw [eqL_true rfl]
      have HB5 := Lib.hid (HB4.out.trans (hb5.mono HB4.out.size))
      clear hb5
      go_wp2
      go_ret
      exact ⟨rfl, HB5.out⟩
end Go.Proofs.YtpccbnlbonjklaaDoor

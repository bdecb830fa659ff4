/- The walk of TlvMatchesReference. -/
import Derived.Test.YtpccbnlbonjklaaDoorTlvL
import Derived.Test.YtpccbnlbonjklaaDoorTlv12
namespace Go.Proofs.YtpccbnlbonjklaaDoor
set_option maxRecDepth 100000
set_option linter.unusedVariables false
open Go.RowKit

theorem fits_of {w : World} {fs : List Fr} (hok : ∀ f ∈ fs, f.ok w) (h : ∀ m ∈ msF fs, m.2.length ≤ 65531) : fitsF fs = true := by
  rw [fitsF, List.all_eq_true]
  intro f hf
  have h1 := h f.m (List.mem_map.2 ⟨f, hf, rfl⟩)
  rw [Fr.m, (hok f hf).1.len] at h1
  simpa using h1
theorem sum_le {zs : List Int} {w : World} : ∀ {fs : List Fr}, (∀ f ∈ fs, f.ok w) → ∀ out, (out.length : Int) + sumF fs ≤ ((msF fs).foldl stepJ out).length
  | [], _, out => by simp [msF, sumF]
  | f :: fs, h, out => by
    have h1 := (h f (by simp)).1.len
    have h2 := sum_le (zs := zs) (fs := fs) (fun g hg => h g (by simp [hg])) (stepJ out f.m)
    have h3 : (stepJ out f.m).length = (padB out).length + (f.p.n + 4) := by rw [stepJ, List.length_append, encF_length]; simp only [Fr.m]; omega
    have h4 : (padB out).length = out.length + (Pd.gap out.length).toNat := padB_length out
    have h5 : sumF (f :: fs) = f.p.n + sumF fs := by simp [sumF]
    have h6 : msF (f :: fs) = f.m :: msF fs := rfl
    rw [h6, List.foldl_cons, h5]
    omega

set_option maxHeartbeats 8000000 in
theorem walk_TlvMatchesReference (a : Option Addr) (n c : Nat) (zs : List Int) (w : World) (hg : Er.TypOk w) (hx : Ints .u8 w a n c zs) (hb : Byt zs) :
    Calls Tryd.prog 3 #[.slice a n c] w fun e w' => e = .returned (.bool true) ∧ Below w.heap.size w w' := by
  have HG := Lib.hid hg
  have HX := Lib.hid hx
  have HL := Lib.hid hx.len
  have HB := Lib.hid hb
  have hcap := hx.cap
  clear hg hx hb
  by_cases hn : n ≤ 2000
  rotate_left
  · have d1 : decide (2000 < (n : Int)) = true := by simp; omega
    clear hn
    go_enter Tryd.func3, Tryd.ntmps3
    go_wp2_with fail
    refine (awake_any _ HG.out).mono ?_
    rintro e w1 ⟨rfl, hb1⟩
    have HB1 := Lib.hid hb1
    clear hb1
    go_wp2_with fail
    refine (awake_any _ (HG.out.below HB1.out)).mono ?_
    rintro e w2 ⟨rfl, hb2⟩
    have HB2 := Lib.hid (HB1.out.trans (hb2.mono HB1.out.size))
    clear hb2
    go_wp2
    go_ret
    exact ⟨rfl, HB2.out⟩
  · have d1 : decide (2000 < (n : Int)) = false := by simp; omega
    go_enter Tryd.func3, Tryd.ntmps3
    go_wp2_with fail
    refine (awake_any _ HG.out).mono ?_
    rintro e w1 ⟨rfl, hb1⟩
    have HB1 := Lib.hid hb1
    clear hb1
    go_wp2_with fail
    refine (tSplit_any _ _ _ _ _ (HX.out.below HB1.out) HB.out (by omega)).mono ?_
    rintro e w2 ⟨fs, r, hr, hfl, hb2, h2⟩
    have HB2 := Lib.hid (HB1.out.trans (hb2.mono HB1.out.size))
    have HRU := Lib.hid hr
    clear hb2 hr
    rcases h2 with ⟨hrn, a2, c2, rfl, hf2⟩ | ⟨co, at', hrs, rfl⟩
    · subst hrn
      have HF2 := Lib.hid hf2
      clear hf2
      go_wp2_with fail
      refine (refSplit_any _ _ _ _ _ (HX.out.below HB2.out) HB.out (by omega)).mono ?_
      rintro e w3 ⟨gs, r3, af, cf, ao, co, hr3, hgl, hb3, hf3, h3⟩
      obtain ⟨hm, hrn⟩ := HRU.out.same hr3
      subst hrn
      rcases h3 with ⟨_, rfl⟩ | ⟨_, _, h, _⟩
      rotate_left
      · cases h
      have HF3 := Lib.hid hf3
      have HF2' := Lib.hid (HF2.out.below hb3)
      have HB3 := Lib.hid (HB2.out.trans (hb3.mono HB2.out.size))
      have HM := Lib.hid hm
      clear hf3 hb3 hm hr3 HF2
      have hgl2 : gs.length = fs.length := (msF_len HM.out).symm
      rw [hgl2] at HF3 ⊢
      have hbx : Below w3.heap.size w3 (w3.alloc (.cells #[.slice af fs.length cf, .slice ao fs.length co, .int .i64 0, .int .i64 0] 32)) := (Below.refl _ w3).alloc (Nat.le_refl _) _
      have HBX := Lib.hid hbx
      clear hbx
      go_wp2_with fail
      refine (told_none _ 0).mono ?_
      rintro e w4 ⟨rfl, hb4⟩
      have q0 := (hb4.cell (p := ⟨w3.heap.size, 0, none⟩) (by simp)).trans (show _ = some (Value.slice af fs.length cf) by simp)
      have q2 := (hb4.cell (p := ⟨w3.heap.size, 2, none⟩) (by simp)).trans (show _ = some (Value.int .i64 0) by simp)
      have hb4' := HBX.out.trans (hb4.mono (by simp))
      have HF4 := Lib.hid (HF2'.out.below hb4')
      have HR4 := Lib.hid (HF3.out.below hb4')
      have HB4 := Lib.hid (HB3.out.trans (hb4'.mono HB3.out.size))
      clear hb4 hb4' HF2' HF3
      have hJ := join_run HB.out HRU.out
      have hok := HF4.out.2.2.2.2
      have hsum := sum_le (zs := zs) hok []
      rw [← joinL_fold, hJ.1, HL.out] at hsum
      have hfit := fits_of hok hJ.2
      have HJ := Lib.hid hJ.1
      have hsum2 : sumF fs ≤ 2000 := by simp at hsum; omega
      have HFIT := Lib.hid hfit
      clear hJ hok hsum hfit
      go_wp2_with fail
      refine (tJoin_any _ _ _ _ _ HF4.out (by omega) (by omega)).mono ?_
      rintro e w5 ⟨h5, hb5⟩
      rcases h5 with ⟨_, a5, c5, rfl, hi5⟩ | ⟨h, _⟩
      rotate_left
      · rw [HFIT.out] at h; cases h
      rw [HJ.out, HL.out] at hi5 ⊢
      have q0 := (hb5.cell (p := ⟨w3.heap.size, 0, none⟩) (lt_of_cell q0)).trans q0
      have HI5 := Lib.hid hi5
      have HF5 := Lib.hid (HF4.out.below hb5)
      have HR5 := Lib.hid (HR4.out.below hb5)
      have HB5 := Lib.hid (HB4.out.trans (hb5.mono HB4.out.size))
      clear hi5 hb5 q2 HF4 HR4
      have hfn : fs.length ≤ 2000 := by omega
      go_wp2
      go_region_held3 (fun w' => w'.cell? ⟨w3.heap.size, 0, none⟩ = some (.slice af fs.length cf)) (first | exact z3 | exact z2 | exact z1 | exact q0 | go_keep)
        (first
          | (go_at_call 12; refine (back_any _ _ _ _ _ (HF5.out.below (Below.refl _ _).drew) (by omega)).mono ?_; rintro e w6 ⟨a6, c6, rfl, hf6, hb6⟩; have z1 := (hb6.cell (p := ⟨w3.heap.size, 0, none⟩) (lt_of_cell q0)).trans q0; have HF6 := Lib.hid hf6; have HB6' := Lib.hid ((Below.refl w5.heap.size w5).drew.trans hb6); clear hb6 hf6)
          | (go_at_call 11; refine (rsame_any _ _ _ _ _ _ _ _ _ HF6.out (HR5.out.below HB6'.out)).mono ?_; rintro e w7 ⟨rfl, hb7⟩; rw [decide_eq_true HM.out]; have z2 := (hb7.cell (p := ⟨w3.heap.size, 0, none⟩) (lt_of_cell z1)).trans z1; have HB7' := Lib.hid (HB6'.out.trans (hb7.mono HB6'.out.size)); clear hb7)
          | (go_at_call 13; refine (Wr.same_any _ _ _ _ _ _ _ _ _ (HI5.out.below HB7'.out) (HX.out.below (HB5.out.trans (HB7'.out.mono HB5.out.size)))).mono ?_; rintro e w8 ⟨rfl, hb8⟩; rw [eqL_true rfl]; have z3 := (hb8.cell (p := ⟨w3.heap.size, 0, none⟩) (lt_of_cell z2)).trans z2; have HB8' := Lib.hid (HB7'.out.trans (hb8.mono HB7'.out.size)); clear hb8))
      all_goals (try go_wp2)
      all_goals go_ret
      all_goals exact ⟨rfl, HB5.out.trans (HB8'.out.mono HB5.out.size)⟩
    · subst hrs
      go_wp2_with fail
      refine (refSplit_any _ _ _ _ _ (HX.out.below HB2.out) HB.out (by omega)).mono ?_
      rintro e w3 ⟨gs, r3, af, cf, ao, co2, hr3, hgl, hb3, hf3, h3⟩
      obtain ⟨hm, hrn⟩ := HRU.out.same hr3
      subst hrn
      rcases h3 with ⟨h, _⟩ | ⟨co', at2, h, rfl⟩
      · cases h
      have he : co = co' ∧ at' = at2 := by simpa using h
      obtain ⟨rfl, rfl⟩ := he
      have HB3 := Lib.hid (HB2.out.trans (hb3.mono HB2.out.size))
      have hne := HRU.out.ne
      have hbx : Below w3.heap.size w3 (w3.alloc (.cells #[.slice af gs.length cf, .slice ao gs.length co2, .int .i64 co, .int .i64 at'] 32)) := (Below.refl _ w3).alloc (Nat.le_refl _) _
      have HBX := Lib.hid hbx
      have HNE := Lib.hid hne
      clear hf3 hb3 hm hr3 hbx h
      go_wp2_with fail
      refine (told_some _ co at' ((HG.out.below HB3.out).below HBX.out) HNE.out).mono ?_
      rintro e w4 ⟨rfl, hb4⟩
      have q2 := (hb4.cell (p := ⟨w3.heap.size, 2, none⟩) (by simp)).trans (show _ = some (Value.int .i64 co) by simp)
      have HB4 := Lib.hid (HB3.out.trans ((HBX.out.trans (hb4.mono (by simp))).mono HB3.out.size))
      have d2 : (co != 0) = true := by simp [HNE.out]
      clear hb4
      go_wp2
      go_ret
      exact ⟨rfl, HB4.out⟩
end Go.Proofs.YtpccbnlbonjklaaDoor

/- The fixed results of layer 6. -/
import Derived.Test.YtpccbnlbonjklaaDoorTlv8
namespace Go.Proofs.YtpccbnlbonjklaaDoor
set_option maxRecDepth 100000
set_option linter.unusedVariables false
open Go.RowKit

def awB : List Int := [0, 5, 0, 5, 9, 0, 0, 0, 0, 6, 0, 4]
def awM : List (Int × List Int) := [(5, [9]), (6, [])]
theorem aw_join : joinL awM = awB := by decide +kernel
theorem aw_byt : Byt awB := fun z hz => by simp [awB] at hz; omega
theorem aw_byt2 : Byt [0, 5, 0, 3] := fun z hz => by simp at hz; omega
theorem aw1 : lenAt awB 0 = 5 := by decide +kernel
theorem aw2 : lenAt awB 8 = 4 := by decide +kernel
theorem aw3 : Pd.nextB awB 5 = true := by decide +kernel
theorem aw4 : Pd.gap 5 = 3 := by decide +kernel
theorem aw5 : typAt awB 0 = 5 := by decide +kernel
theorem aw6 : typAt awB 8 = 6 := by decide +kernel
theorem aw7 : valAt awB 0 = [9] := by decide +kernel
theorem aw8 : valAt awB 8 = [] := by decide +kernel
theorem aw9 : lenAt [0, 5, 0, 3] 0 = 3 := by decide +kernel
theorem aw_len : awB.length = 12 := rfl
theorem aw_run : Run awB 0 awM none := by
  have h2 : Run awB 8 [(6, [])] none := by
    have := Run.ok (zs := awB) (p := 8) (q := 12) (fs := []) (r := none) (by rw [aw_len]; omega) ⟨by rw [aw_len]; omega, by rw [aw2]; omega, .inl ⟨by rw [aw2, aw_len], by rw [aw_len]⟩⟩ (Run.stop (by rw [aw_len]; omega))
    rwa [aw6, aw8] at this
  have := Run.ok (zs := awB) (p := 0) (q := 8) (by rw [aw_len]; omega) ⟨by rw [aw_len]; omega, by rw [aw1]; omega, .inr ⟨by rw [aw1, aw_len]; omega, by rw [aw1]; exact aw3, by rw [aw1]; show (8 : Int) = 5 + Pd.gap 5; rw [aw4]; rfl, by rw [aw_len]; omega⟩⟩ h2
  rwa [aw5, aw7] at this
theorem aw_bad : Run [0, 5, 0, 3] 0 [] (some (4, 0)) := Run.err (by decide) (.inl ⟨.inr (.inl (by rw [aw9]; omega)), rfl, rfl⟩)
theorem aw_sz : Pd.szs [5, 4] = 12 := by decide +kernel

theorem all_any (a : Option Addr) (n c : Nat) (w : World) : Calls Tryd.prog 21 #[.slice a n c] w fun e w' => e = .returned (.func (Fn.func 33) #[] #[.pointer (some ⟨w.heap.size, 0, none⟩)]) ∧ Below w.heap.size w w' := by
  go_enter Tryd.func21, Tryd.ntmps21
  go_wp2
  go_ret
  exact ⟨rfl, (Below.refl _ w).alloc (Nat.le_refl _) _⟩
theorem neq_nilFunc (b : Nat) (w : World) : (binOp .neq 55 (.func (Fn.func 33) #[] #[.pointer (some ⟨b, 0, none⟩)]) .nilFunc).run Tryd.prog w = .ok (.bool true) w := by kernel_rfl
theorem Frs.two {w : World} {b : Nat} {f g : Fr} (h0 : w.cell? ⟨b, 0, none⟩ = some (.int .u16 f.t)) (h1 : w.cell? ⟨b, 1, none⟩ = some (.slice f.p.a f.p.n f.p.c)) (h2 : w.cell? ⟨b, 2, none⟩ = some (.int .u16 g.t)) (h3 : w.cell? ⟨b, 3, none⟩ = some (.slice g.p.a g.p.n g.p.c))
    (hf : f.ok w) (hg : g.ok w) : Frs w (some ⟨b, 0, none⟩) 2 2 [f, g] := by
  refine ⟨rfl, Nat.le_refl _, by omega, ⟨b, 0, .inl rfl, fun j hj => ?_⟩, fun x hx => ?_⟩
  · match j, hj with
    | 0, _ => exact ⟨lt_of_cell h0, h0, h1⟩
    | 1, _ => exact ⟨lt_of_cell h0, h2, h3⟩
  · simp only [List.mem_cons, List.not_mem_nil, or_false] at hx
    rcases hx with rfl | rfl
    · exact hf
    · exact hg
theorem m_at {fs : List Fr} {ms : List (Int × List Int)} (h : msF fs = ms) {k : Nat} (hk : k < fs.length) : ms[k]? = some (fr fs k).m := by
  rw [← h, msF, List.getElem?_map, List.getElem?_eq_getElem hk, fr_lt hk]; rfl
theorem szF_m {w : World} : ∀ {fs : List Fr}, (∀ f ∈ fs, f.ok w) → szF fs = (msF fs).map fun m => 4 + (m.2.length : Int)
  | [], _ => rfl
  | f :: fs, h => by
    have h1 := (h f (by simp)).1.len
    have h2 := szF_m (fs := fs) (fun g hg => h g (by simp [hg]))
    simp only [szF, msF, List.map_cons] at *
    rw [h2]
    simp [Fr.m, h1]
set_option maxHeartbeats 8000000 in
theorem awake_any (w : World) (hg : Er.TypOk w) : Calls Tryd.prog 6 #[] w fun e w' => e = .returned (.bool true) ∧ Below w.heap.size w w' := by
  have HG := Lib.hid hg
  clear hg
  go_enter Tryd.func6, Tryd.ntmps6
  go_wp2_with fail
  have hB0 : Below w.heap.size w ((w.alloc (.cells #[.int .u8 9] 5)).alloc (.cells #[.int .u16 5, .slice (some ⟨w.heap.size, 0, none⟩) 1 1, .int .u16 6, .slice none 0 0] 48)) := ((Below.refl _ w).alloc (Nat.le_refl _) _).alloc (by simp) _
  have hi9 : Ints .u8 ((w.alloc (.cells #[.int .u8 9] 5)).alloc (.cells #[.int .u16 5, .slice (some ⟨w.heap.size, 0, none⟩) 1 1, .int .u16 6, .slice none 0 0] 48)) (some ⟨w.heap.size, 0, none⟩) 1 1 [9] :=
    (Ints.at .u8 w w.heap.size [9] 5 1 rfl rfl (by omega)).below ((Below.refl _ _).alloc (Nat.le_refl _) _)
  have hfr : Frs ((w.alloc (.cells #[.int .u8 9] 5)).alloc (.cells #[.int .u16 5, .slice (some ⟨w.heap.size, 0, none⟩) 1 1, .int .u16 6, .slice none 0 0] 48)) (some ⟨w.heap.size + 1, 0, none⟩) 2 2 [⟨5, ⟨some ⟨w.heap.size, 0, none⟩, 1, 1, [9]⟩⟩, ⟨6, ⟨none, 0, 0, []⟩⟩] :=
    Frs.two (by simp) (by simp) (by simp) (by simp) ⟨hi9, (fun z hz => by simp at hz; omega), by simp⟩ ⟨Ints.nil _ _, (fun z hz => by cases hz), by simp⟩
  have HB0 := Lib.hid hB0
  refine (tJoin_any _ 2 2 _ _ hfr (by omega) (by simp [sumF])).mono ?_
  clear hfr hi9 hB0
  rintro e w1 ⟨h | ⟨h, _⟩, hb1⟩
  rotate_left
  · simp [fitsF] at h
  obtain ⟨_, a1, c1, rfl, hi1⟩ := h
  rw [show joinL (msF [⟨5, ⟨some ⟨w.heap.size, 0, none⟩, 1, 1, [9]⟩⟩, ⟨6, ⟨none, 0, 0, []⟩⟩]) = awB from aw_join] at hi1 ⊢
  rw [aw_len] at hi1 ⊢
  have HI1 := Lib.hid hi1
  have HB1 := Lib.hid (HB0.out.trans (hb1.mono HB0.out.size))
  clear hi1 hb1
  go_wp2_with fail
  refine (tSplit_any _ _ _ _ _ HI1.out aw_byt (by omega)).mono ?_
  rintro e w2 ⟨fs, r, hr, hfl, hb2, h⟩
  obtain ⟨hm, rfl⟩ := aw_run.same hr
  rcases h with ⟨_, a2, c2, rfl, hfr⟩ | ⟨_, _, h, _⟩
  rotate_left
  · cases h
  have hl2 : fs.length = 2 := by have := congrArg List.length hm; simpa [msF, awM] using this.symm
  rw [hl2] at hfr ⊢
  have HF2 := Lib.hid hfr
  have HM := Lib.hid hm
  have HL2 := Lib.hid hl2
  have HI2 := Lib.hid (HI1.out.below hb2)
  have HB2 := Lib.hid (HB1.out.trans (hb2.mono HB1.out.size))
  clear hfr hb2 hm hr hfl hl2 HI1
  go_wp2_with fail
  have hBB : Below w2.heap.size w2 (w2.alloc (.cells #[.int .u8 0, .int .u8 5, .int .u8 0, .int .u8 3] 5)) := (Below.refl _ w2).alloc (Nat.le_refl _) _
  refine (tSplit_any _ 4 4 [0, 5, 0, 3] _ (Ints.at .u8 w2 w2.heap.size [0, 5, 0, 3] 5 4 rfl rfl (by omega)) aw_byt2 (by omega)).mono ?_
  rintro e w3 ⟨fs3, r3, hr3, _, hb3, h⟩
  obtain ⟨_, rfl⟩ := aw_bad.same hr3
  rcases h with ⟨h, _⟩ | ⟨co, at', h, rfl⟩
  · cases h
  have h4 : co = 4 ∧ at' = 0 := by simpa using h.symm
  obtain ⟨rfl, rfl⟩ := h4
  have hb3' := hBB.trans (hb3.mono (by simp))
  have HF3 := Lib.hid (HF2.out.below hb3')
  have HI3 := Lib.hid (HI2.out.below hb3')
  have HB3 := Lib.hid (HB2.out.trans (hb3'.mono HB2.out.size))
  clear hb3 hb3' hBB hr3 h HF2 HI2
  go_wp2_with fail
  have hBB : Below w3.heap.size w3 (w3.alloc (.cells #[.int .u8 0, .int .u8 5, .int .u8 0, .int .u8 5, .int .u8 9, .int .u8 0, .int .u8 0, .int .u8 0, .int .u8 0, .int .u8 6, .int .u8 0, .int .u8 4] 5)) := (Below.refl _ w3).alloc (Nat.le_refl _) _
  refine (Wr.same_any _ _ 12 _ 12 12 awB awB _ (HI3.out.below hBB) (Ints.at .u8 w3 w3.heap.size awB 5 12 rfl rfl (by omega))).mono ?_
  rintro e w4 ⟨rfl, hb4⟩
  rw [eqL_true rfl]
  have hb4' := hBB.trans (hb4.mono (by simp))
  have HF4 := Lib.hid (HF3.out.below hb4')
  have HI4 := Lib.hid (HI3.out.below hb4')
  have HB4 := Lib.hid (HB3.out.trans (hb4'.mono HB3.out.size))
  clear hb4 hb4' hBB HF3 HI3
  obtain ⟨b2, o2, ha2, hc2⟩ := HF4.out.loc
  obtain rfl : a2 = some ⟨b2, o2, none⟩ := by rcases ha2 with h | h
                                              · exact h
                                              · omega
  have hm0 : (fr fs 0).m = (5, [9]) := (Option.some.inj (m_at HM.out.symm (k := 0) (by rw [HL2.out]; omega))).symm
  have hm1 : (fr fs 1).m = (6, []) := (Option.some.inj (m_at HM.out.symm (k := 1) (by rw [HL2.out]; omega))).symm
  have ht1 : (fr fs 1).t = 6 := congrArg Prod.fst hm1
  have y1 := (hc2 1 (by omega)).2.1
  rw [ht1] at y1
  clear ha2 hc2 ht1
  go_wp2_with fail
  refine (told_some _ 4 0 (HG.out.below HB4.out) (by decide)).mono ?_
  rintro e w5 ⟨rfl, hb5⟩
  have HF5 := Lib.hid (HF4.out.below hb5)
  have HB5 := Lib.hid (HB4.out.trans (hb5.mono HB4.out.size))
  clear hb5 y1 HF4 HI4
  have hlen : ∀ f ∈ fs, f.p.n ≤ 1000000 := fun f hf => by
    have h1 := (HF5.out.2.2.2.2 f hf).1.len
    have h2 : f.m ∈ awM := by rw [HM.out]; exact List.mem_map.2 ⟨f, hf, rfl⟩
    simp only [awM, List.mem_cons, List.not_mem_nil, or_false] at h2
    rcases h2 with h2 | h2
    · have h3 := congrArg (fun x => x.2.length) h2
      simp only [Fr.m] at h3
      rw [← h1, h3]; decide
    · have h3 := congrArg (fun x => x.2.length) h2
      simp only [Fr.m] at h3
      rw [← h1, h3]; decide
  have HLEN := Lib.hid hlen
  clear hlen
  go_wp2_with fail
  refine (size_any _ _ _ _ _ HF5.out (by omega) HLEN.out).mono ?_
  rintro e w6 ⟨rfl, hb6⟩
  rw [szF_m HF5.out.2.2.2.2, ← HM.out, show awM.map (fun m => 4 + (m.2.length : Int)) = [5, 4] from rfl, aw_sz]
  have HF6 := Lib.hid (HF5.out.below hb6)
  have HB6 := Lib.hid (HB5.out.trans (hb6.mono HB5.out.size))
  clear hb6 HF5
  obtain ⟨b3, o3, ha3, hc3⟩ := HF6.out.loc
  have hbo : b2 = b3 ∧ o2 = o3 := by
    rcases ha3 with h | h
    · cases h; exact ⟨rfl, rfl⟩
    · omega
  obtain ⟨rfl, rfl⟩ := hbo
  have y0 : w6.cell? ⟨b2, o2, none⟩ = some (.int .u16 (fr fs 0).t) := by simpa using (hc3 0 (by omega)).2.1
  have y1 : w6.cell? ⟨b2, o2 + 1, none⟩ = some (.slice (fr fs 0).p.a (fr fs 0).p.n (fr fs 0).p.c) := by simpa using (hc3 0 (by omega)).2.2
  have HM0 := Lib.hid hm0
  have HOK := Lib.hid (HF6.out.2.2.2.2 _ (fr_mem (fs := fs) (k := 0) (by rw [HL2.out]; omega)))
  clear ha3 hc3 hm0 hm1
  go_wp2_with fail
  have hBB : Below w6.heap.size w6 (w6.alloc (.cells #[.int .u8 9] 5)) := (Below.refl _ w6).alloc (Nat.le_refl _) _
  refine (tsame_any (fr fs 0) ⟨5, ⟨some ⟨w6.heap.size, 0, none⟩, 1, 1, [9]⟩⟩ _ (HOK.out.below hBB) ⟨Ints.at .u8 w6 w6.heap.size [9] 5 1 rfl rfl (by omega), (fun z hz => by simp at hz; omega), by simp⟩).mono ?_
  rintro e w7 ⟨rfl, hb7⟩
  rw [decide_eq_true (show (fr fs 0).m = (⟨5, ⟨some ⟨w6.heap.size, 0, none⟩, 1, 1, [9]⟩⟩ : Fr).m from HM0.out)]
  have HB7 := Lib.hid (HB6.out.trans ((hBB.trans (hb7.mono (by simp))).mono HB6.out.size))
  clear hb7 hBB y0 y1
  go_wp2_with fail
  refine (all_any _ _ _ _).mono ?_
  rintro e w8 ⟨rfl, hb8⟩
  have HB8 := Lib.hid (HB7.out.trans (hb8.mono HB7.out.size))
  clear hb8
  have hnf := neq_nilFunc w7.heap.size w8
  go_wp2
  go_ret
  exact ⟨rfl, HB8.out⟩
end Go.Proofs.YtpccbnlbonjklaaDoor

/- The walk of TlvFrames. -/
import Derived.Test.YtpccbnlbonjklaaDoorTlv10
namespace Go.Proofs.YtpccbnlbonjklaaDoor
set_option maxRecDepth 100000
set_option linter.unusedVariables false
open Go.RowKit

theorem Frs.one {w : World} {b : Nat} {f : Fr} (h0 : w.cell? ⟨b, 0, none⟩ = some (.int .u16 f.t)) (h1 : w.cell? ⟨b, 1, none⟩ = some (.slice f.p.a f.p.n f.p.c)) (hf : f.ok w) : Frs w (some ⟨b, 0, none⟩) 1 1 [f] := by
  refine ⟨rfl, Nat.le_refl _, by omega, ⟨b, 0, .inl rfl, fun j hj => ?_⟩, fun x hx => ?_⟩
  · obtain rfl : j = 0 := by omega
    exact ⟨lt_of_cell h0, h0, h1⟩
  · obtain rfl := List.mem_singleton.1 hx
    exact hf
theorem sz1 (K : Nat) : Pd.szs [4 + (K : Int)] = K + 4 := by simp [Pd.szs, Pd.gap]; omega
theorem sz2 (K : Nat) : Pd.szs [4 + (K : Int), 4 + (K : Int)] = 2 * ((K : Int) + 4) + Pd.gap K := by simp [Pd.szs, Pd.gap]; omega

/-- the last comparisons -/
theorem same_end (t u : Int) (za zb : List Int) : decide ((t, za) = (u, zb)) = (decide (t = u) && eqL za zb) := by
  by_cases h : t = u
  · subst h; simp [eqL]
  · simp [h]

theorem same_endF (f g : Fr) : decide (f.m = g.m) = (decide (f.t = g.t) && eqL f.p.zs g.p.zs) := same_end f.t g.t f.p.zs g.p.zs
set_option maxHeartbeats 8000000 in
theorem walk_TlvFrames (t m u : Int) (a1 : Option Addr) (n1 c1 : Nat) (za : List Int) (a2 : Option Addr) (n2 c2 : Nat) (zb : List Int) (w : World) (hg : Er.TypOk w) (ht0 : 0 ≤ t) (ht1 : t ≤ 65535) (hm0 : 0 ≤ m) (hm1 : m ≤ 4294967295) (hu0 : 0 ≤ u) (hu1 : u ≤ 65535)
    (hx : Ints .u8 w a1 n1 c1 za) (hbx : Byt za) (hy : Ints .u8 w a2 n2 c2 zb) (hby : Byt zb) :
    Calls Tryd.prog 5 #[.int .u16 t, .int .u32 m, .int .u16 u, .slice a1 n1 c1, .slice a2 n2 c2] w fun e w' => e = .returned (.bool true) ∧ Below w.heap.size w w' := by
  obtain ⟨i0, hi, hz0, hz1, hz2⟩ := info_parts Pd.info5
  have HG := Lib.hid hg
  have HX := Lib.hid hx
  have HY := Lib.hid hy
  have HBX := Lib.hid hbx
  have HBY := Lib.hid hby
  have hc1 := hx.cap
  have hc2 := hy.cap
  obtain ⟨K0, hK0⟩ : ∃ K0 : Nat, m.tmod 70 = K0 := ⟨(m % 70).toNat, by rw [Int.tmod_eq_emod_of_nonneg hm0]; omega⟩
  have hK1 : K0 < 70 := by have := Int.tmod_eq_emod_of_nonneg (b := 70) hm0; omega
  obtain ⟨K, hK⟩ : ∃ K : Nat, 65500 + (K0 : Int) = K := ⟨65500 + K0, by omega⟩
  have hwm : IntKind.i64.wrap m = m := by rw [IntKind.wrap_i64]; omega
  clear hg hx hy hbx hby
  by_cases hfew : n1 ≤ 300 ∧ n2 ≤ 300
  rotate_left
  · by_cases h1 : n1 ≤ 300
    · have d1 : decide (300 < (n1 : Int)) = false := by simp; omega
      have d2 : decide (300 < (n2 : Int)) = true := by simp; omega
      clear hfew h1
      go_enter Tryd.func5, Tryd.ntmps5
      go_wp2_with fail
      refine (awake_any _ HG.out).mono ?_
      rintro e w1 ⟨rfl, hb1⟩
      have HB1 := Lib.hid hb1
      clear hb1
      go_wp2_with fail
      refine (awake_any _ (HG.out.below HB1.out)).mono ?_
      rintro e w2 ⟨rfl, hb2⟩
      have HB2 := Lib.hid (HB1.out.trans (hb2.mono HB1.out.size))
      clear hb2
      go_wp2
      go_ret
      exact ⟨rfl, HB2.out⟩
    · have d1 : decide (300 < (n1 : Int)) = true := by simp; omega
      clear hfew h1
      go_enter Tryd.func5, Tryd.ntmps5
      go_wp2_with fail
      refine (awake_any _ HG.out).mono ?_
      rintro e w1 ⟨rfl, hb1⟩
      have HB1 := Lib.hid hb1
      clear hb1
      go_wp2_with fail
      refine (awake_any _ (HG.out.below HB1.out)).mono ?_
      rintro e w2 ⟨rfl, hb2⟩
      have HB2 := Lib.hid (HB1.out.trans (hb2.mono HB1.out.size))
      clear hb2
      go_wp2
      go_ret
      exact ⟨rfl, HB2.out⟩
  · obtain ⟨h1, h2⟩ := hfew
    have d1 : decide (300 < (n1 : Int)) = false := by simp; omega
    have d2 : decide (300 < (n2 : Int)) = false := by simp; omega
    have HK := Lib.hid hK
    go_enter Tryd.func5, Tryd.ntmps5
    go_wp2_with fail
    refine (awake_any _ HG.out).mono ?_
    rintro e w1 ⟨rfl, hb1⟩
    have HB1 := Lib.hid hb1
    clear hb1
    go_wp2_with (at_make; refine wpList_make_full _ rfl _ _ 22 rfl w1.heap.size 5 i0 (.int .u8 0) 1 Tryd.underlying22 hi hz0 hz1 .i64 .i64 _ _ K rfl rfl rfl rfl (by rw [hz2]; omega) (by unfold maxLen; omega) (Nat.le_refl _) ?_)
    intro w2 hown hgrow
    have e1 : (madeCells #[Value.int .u8 0] (K * 1)).toList = (List.replicate K (0 : Int)).map (Value.int .u8) := Pd.zeros_cells K
    rw [Nat.mul_one] at e1
    rw [e1] at hown
    have HI2 := Lib.hid (ints_of hown)
    have HB2 := Lib.hid (HB1.out.trans ((below_grown hgrow rfl).mono HB1.out.size))
    clear hown hgrow e1
    obtain ⟨F, hF⟩ : ∃ F : Fr, F = ⟨t, ⟨some ⟨w1.heap.size, 0, none⟩, K, K, List.replicate K 0⟩⟩ := ⟨_, rfl⟩
    have hFok : F.ok w2 := by rw [hF]; exact ⟨HI2.out, Byt.replicate K, ht0, ht1⟩
    have hFa : F.p.a = some ⟨w1.heap.size, 0, none⟩ := by rw [hF]
    have hFt : F.t = t := by rw [hF]
    have hFn : F.p.n = K := by rw [hF]
    have hFc : F.p.c = K := by rw [hF]
    have hFv : #[Value.agg #[.int .u16 t, .slice (some ⟨w1.heap.size, 0, none⟩) K K]] = #[Value.agg #[.int .u16 F.t, .slice F.p.a F.p.n F.p.c]] := by rw [hFa, hFt, hFn, hFc]
    have HFV := Lib.hid hFv
    have HFOK := Lib.hid hFok
    clear hF hFok hFv
    have hbx : Below w2.heap.size w2 (w2.alloc (.cells #[.int .u16 t, .slice (some ⟨w1.heap.size, 0, none⟩) K K] 48)) := (Below.refl _ w2).alloc (Nat.le_refl _) _
    have HBX2 := Lib.hid hbx
    clear hbx
    go_wp2_with fail
    rw [HFV.out]
    by_cases hk : K ≤ 65531
    · have d3 : decide ((K : Int) ≤ 65531) = true := by simp; omega
      refine (putf_yes F _ (HFOK.out.below HBX2.out) (by rw [hFn]; exact hk)).mono ?_
      rintro e w3 ⟨a3, c3, rfl, _, hb3⟩
      rw [hFn]
      have HF3 := Lib.hid ((HFOK.out.below HBX2.out).below hb3)
      have q0 := (hb3.cell (p := ⟨w2.heap.size, 0, none⟩) (by simp)).trans (show _ = some (Value.int .u16 t) by simp)
      have q1 := (hb3.cell (p := ⟨w2.heap.size, 1, none⟩) (by simp)).trans (show _ = some (Value.slice (some ⟨w1.heap.size, 0, none⟩) K K) by simp)
      have hbx3 : w2.heap.size < w3.heap.size := lt_of_cell q0
      have HB3 := Lib.hid (HB2.out.trans ((HBX2.out.trans (hb3.mono (by simp))).mono HB2.out.size))
      clear hb3 hk
      -- the sizes
      have hfs : Below w3.heap.size w3 (w3.alloc (.cells #[.int .u16 t, .slice (some ⟨w1.heap.size, 0, none⟩) K K] 48)) := (Below.refl _ w3).alloc (Nat.le_refl _) _
      go_wp2_with fail
      refine (size_any _ 1 1 [F] _ (Frs.one (by rw [hFt]; simp) (by rw [hFa, hFn, hFc]; simp) (HF3.out.below hfs)) (by omega) (fun f hf => by rw [List.mem_singleton.1 hf, hFn]; omega)).mono ?_
      rintro e w4 ⟨rfl, hb4⟩
      rw [show szF [F] = [4 + (K : Int)] by simp [szF, hFn], sz1]
      have hb4' := hfs.trans (hb4.mono (by simp))
      have q0 := (hb4'.cell (p := ⟨w2.heap.size, 0, none⟩) hbx3).trans q0
      have q1 := (hb4'.cell (p := ⟨w2.heap.size, 1, none⟩) hbx3).trans q1
      have HF4 := Lib.hid (HF3.out.below hb4')
      have HB4 := Lib.hid (HB3.out.trans (hb4'.mono HB3.out.size))
      clear hb4 hb4' hfs
      have hfs : Below w4.heap.size w4 (w4.alloc (.cells #[.int .u16 t, .slice (some ⟨w1.heap.size, 0, none⟩) K K, .int .u16 t, .slice (some ⟨w1.heap.size, 0, none⟩) K K] 48)) := (Below.refl _ w4).alloc (Nat.le_refl _) _
      go_wp2_with fail
      refine (size_any _ 2 2 [F, F] _ (Frs.two (by rw [hFt]; simp) (by rw [hFa, hFn, hFc]; simp) (by rw [hFt]; simp) (by rw [hFa, hFn, hFc]; simp) (HF4.out.below hfs) (HF4.out.below hfs)) (by omega) (fun f hf => by simp only [List.mem_cons, List.not_mem_nil, or_false, or_self] at hf; rw [hf, hFn]; omega)).mono ?_
      rintro e w5 ⟨rfl, hb5⟩
      rw [show szF [F, F] = [4 + (K : Int), 4 + (K : Int)] by simp [szF, hFn], sz2]
      have hb5' := hfs.trans (hb5.mono (by simp))
      have HB5 := Lib.hid (HB4.out.trans (hb5'.mono HB4.out.size))
      clear hb5 hb5' hfs q0 q1
      have hgK := Pd.gap_bd (K : Int)
      go_wp2_with fail
      refine (Pd.refgap_any (K : Int) _ (by omega) (by omega)).mono ?_
      rintro e w5' ⟨rfl, rfl⟩
      go_wp2_with fail
      -- the other frames
      have hok : Fr.ok w5 ⟨t, ⟨a1, n1, c1, za⟩⟩ := ⟨HX.out.below HB5.out, HBX.out, ht0, ht1⟩
      refine (putf_yes ⟨t, ⟨a1, n1, c1, za⟩⟩ _ hok (by show n1 ≤ 65531; omega)).mono ?_
      rintro e w6 ⟨a6, c6, rfl, ho6, hb6⟩
      dsimp only [Fr.m] at ho6 ⊢
      have HI6 := Lib.hid (ints_of ho6)
      have HB6 := Lib.hid (HB5.out.trans (hb6.mono HB5.out.size))
      clear ho6 hb6 hok
      have hfs : Below w6.heap.size w6 (w6.alloc (.cells #[.int .u16 t, .slice a1 n1 c1] 51)) := (Below.refl _ w6).alloc (Nat.le_refl _) _
      have hok : Fr.ok (w6.alloc (.cells #[.int .u16 t, .slice a1 n1 c1] 51)) ⟨t, ⟨a1, n1, c1, za⟩⟩ := ⟨(HX.out.below HB6.out).below hfs, HBX.out, ht0, ht1⟩
      go_wp2_with fail
      refine (refJoin_any _ 1 1 [⟨t, ⟨a1, n1, c1, za⟩⟩] _ (Frs.one (by simp) (by simp) hok) (by omega) (by simp [sumF]; omega)).mono ?_
      rintro e w7 ⟨h7, hb7⟩
      rcases h7 with ⟨_, a7, c7, rfl, hi7⟩ | ⟨h7, _⟩
      rotate_left
      · exfalso; simp [fitsF] at h7; omega
      have hj : joinL (msF [(⟨t, ⟨a1, n1, c1, za⟩⟩ : Fr)]) = encF (t, za) := by simp [joinL, msF, Fr.m, padB, Pd.gap]
      rw [hj, encF_length, HX.out.len] at hi7 ⊢
      have HI7 := Lib.hid hi7
      have hb7' := hfs.trans (hb7.mono (by simp))
      have HI6' := Lib.hid (HI6.out.below hb7')
      have HB7 := Lib.hid (HB6.out.trans (hb7'.mono HB6.out.size))
      clear hi7 hb7 hb7' hfs hok hj HI6
      go_wp2_with fail
      refine (Wr.same_any _ _ _ _ _ _ _ _ _ HI6'.out HI7.out).mono ?_
      rintro e w8 ⟨rfl, hb8⟩
      rw [eqL_true rfl]
      have HB8 := Lib.hid (HB7.out.trans (hb8.mono HB7.out.size))
      clear hb8 HI6' HI7
      go_wp2_with fail
      refine (tsame_any ⟨t, ⟨a1, n1, c1, za⟩⟩ ⟨u, ⟨a2, n2, c2, zb⟩⟩ _ ⟨HX.out.below HB8.out, HBX.out, ht0, ht1⟩ ⟨HY.out.below HB8.out, HBY.out, hu0, hu1⟩).mono ?_
      rintro e w9 ⟨rfl, hb9⟩
      have HB9 := Lib.hid (HB8.out.trans (hb9.mono HB8.out.size))
      clear hb9
      rw [same_endF]
      dsimp only
      by_cases htu : t = u
      · have dt : decide (t = u) = true := decide_eq_true htu
        have dt2 : (t == u) = true := by simp [htu]
        clear htu
        rw [dt, Bool.true_and]
        go_wp2_with fail
        refine (Wr.same_any _ _ _ _ _ _ _ _ _ (HX.out.below HB9.out) (HY.out.below HB9.out)).mono ?_
        rintro e wa ⟨rfl, hba⟩
        have HBA := Lib.hid (HB9.out.trans (hba.mono HB9.out.size))
        clear hba
        go_wp2
        go_ret
        exact ⟨by simp, HBA.out⟩
      · have dt : decide (t = u) = false := decide_eq_false htu
        have dt2 : (t == u) = false := by simp [htu]
        clear htu
        rw [dt, Bool.false_and]
        go_wp2
        go_ret
        exact ⟨by simp, HB9.out⟩
    · have d3 : decide ((K : Int) ≤ 65531) = false := by simp; omega
      refine (putf_no F _ (by rw [hFn]; omega)).mono ?_
      rintro e w3 ⟨rfl, hb3⟩
      have HF3 := Lib.hid ((HFOK.out.below HBX2.out).below hb3)
      have q0 := (hb3.cell (p := ⟨w2.heap.size, 0, none⟩) (by simp)).trans (show _ = some (Value.int .u16 t) by simp)
      have q1 := (hb3.cell (p := ⟨w2.heap.size, 1, none⟩) (by simp)).trans (show _ = some (Value.slice (some ⟨w1.heap.size, 0, none⟩) K K) by simp)
      have hbx3 : w2.heap.size < w3.heap.size := lt_of_cell q0
      have HB3 := Lib.hid (HB2.out.trans ((HBX2.out.trans (hb3.mono (by simp))).mono HB2.out.size))
      clear hb3 hk
      -- the sizes
      have hfs : Below w3.heap.size w3 (w3.alloc (.cells #[.int .u16 t, .slice (some ⟨w1.heap.size, 0, none⟩) K K] 48)) := (Below.refl _ w3).alloc (Nat.le_refl _) _
      go_wp2_with fail
      refine (size_any _ 1 1 [F] _ (Frs.one (by rw [hFt]; simp) (by rw [hFa, hFn, hFc]; simp) (HF3.out.below hfs)) (by omega) (fun f hf => by rw [List.mem_singleton.1 hf, hFn]; omega)).mono ?_
      rintro e w4 ⟨rfl, hb4⟩
      rw [show szF [F] = [4 + (K : Int)] by simp [szF, hFn], sz1]
      have hb4' := hfs.trans (hb4.mono (by simp))
      have q0 := (hb4'.cell (p := ⟨w2.heap.size, 0, none⟩) hbx3).trans q0
      have q1 := (hb4'.cell (p := ⟨w2.heap.size, 1, none⟩) hbx3).trans q1
      have HF4 := Lib.hid (HF3.out.below hb4')
      have HB4 := Lib.hid (HB3.out.trans (hb4'.mono HB3.out.size))
      clear hb4 hb4' hfs
      have hfs : Below w4.heap.size w4 (w4.alloc (.cells #[.int .u16 t, .slice (some ⟨w1.heap.size, 0, none⟩) K K, .int .u16 t, .slice (some ⟨w1.heap.size, 0, none⟩) K K] 48)) := (Below.refl _ w4).alloc (Nat.le_refl _) _
      go_wp2_with fail
      refine (size_any _ 2 2 [F, F] _ (Frs.two (by rw [hFt]; simp) (by rw [hFa, hFn, hFc]; simp) (by rw [hFt]; simp) (by rw [hFa, hFn, hFc]; simp) (HF4.out.below hfs) (HF4.out.below hfs)) (by omega) (fun f hf => by simp only [List.mem_cons, List.not_mem_nil, or_false, or_self] at hf; rw [hf, hFn]; omega)).mono ?_
      rintro e w5 ⟨rfl, hb5⟩
      rw [show szF [F, F] = [4 + (K : Int), 4 + (K : Int)] by simp [szF, hFn], sz2]
      have hb5' := hfs.trans (hb5.mono (by simp))
      have HB5 := Lib.hid (HB4.out.trans (hb5'.mono HB4.out.size))
      clear hb5 hb5' hfs q0 q1
      have hgK := Pd.gap_bd (K : Int)
      go_wp2_with fail
      refine (Pd.refgap_any (K : Int) _ (by omega) (by omega)).mono ?_
      rintro e w5' ⟨rfl, rfl⟩
      go_wp2_with fail
      -- the other frames
      have hok : Fr.ok w5 ⟨t, ⟨a1, n1, c1, za⟩⟩ := ⟨HX.out.below HB5.out, HBX.out, ht0, ht1⟩
      refine (putf_yes ⟨t, ⟨a1, n1, c1, za⟩⟩ _ hok (by show n1 ≤ 65531; omega)).mono ?_
      rintro e w6 ⟨a6, c6, rfl, ho6, hb6⟩
      dsimp only [Fr.m] at ho6 ⊢
      have HI6 := Lib.hid (ints_of ho6)
      have HB6 := Lib.hid (HB5.out.trans (hb6.mono HB5.out.size))
      clear ho6 hb6 hok
      have hfs : Below w6.heap.size w6 (w6.alloc (.cells #[.int .u16 t, .slice a1 n1 c1] 51)) := (Below.refl _ w6).alloc (Nat.le_refl _) _
      have hok : Fr.ok (w6.alloc (.cells #[.int .u16 t, .slice a1 n1 c1] 51)) ⟨t, ⟨a1, n1, c1, za⟩⟩ := ⟨(HX.out.below HB6.out).below hfs, HBX.out, ht0, ht1⟩
      go_wp2_with fail
      refine (refJoin_any _ 1 1 [⟨t, ⟨a1, n1, c1, za⟩⟩] _ (Frs.one (by simp) (by simp) hok) (by omega) (by simp [sumF]; omega)).mono ?_
      rintro e w7 ⟨h7, hb7⟩
      rcases h7 with ⟨_, a7, c7, rfl, hi7⟩ | ⟨h7, _⟩
      rotate_left
      · exfalso; simp [fitsF] at h7; omega
      have hj : joinL (msF [(⟨t, ⟨a1, n1, c1, za⟩⟩ : Fr)]) = encF (t, za) := by simp [joinL, msF, Fr.m, padB, Pd.gap]
      rw [hj, encF_length, HX.out.len] at hi7 ⊢
      have HI7 := Lib.hid hi7
      have hb7' := hfs.trans (hb7.mono (by simp))
      have HI6' := Lib.hid (HI6.out.below hb7')
      have HB7 := Lib.hid (HB6.out.trans (hb7'.mono HB6.out.size))
      clear hi7 hb7 hb7' hfs hok hj HI6
      go_wp2_with fail
      refine (Wr.same_any _ _ _ _ _ _ _ _ _ HI6'.out HI7.out).mono ?_
      rintro e w8 ⟨rfl, hb8⟩
      rw [eqL_true rfl]
      have HB8 := Lib.hid (HB7.out.trans (hb8.mono HB7.out.size))
      clear hb8 HI6' HI7
      go_wp2_with fail
      refine (tsame_any ⟨t, ⟨a1, n1, c1, za⟩⟩ ⟨u, ⟨a2, n2, c2, zb⟩⟩ _ ⟨HX.out.below HB8.out, HBX.out, ht0, ht1⟩ ⟨HY.out.below HB8.out, HBY.out, hu0, hu1⟩).mono ?_
      rintro e w9 ⟨rfl, hb9⟩
      have HB9 := Lib.hid (HB8.out.trans (hb9.mono HB8.out.size))
      clear hb9
      rw [same_endF]
      dsimp only
      by_cases htu : t = u
      · have dt : decide (t = u) = true := decide_eq_true htu
        have dt2 : (t == u) = true := by simp [htu]
        clear htu
        rw [dt, Bool.true_and]
        go_wp2_with fail
        refine (Wr.same_any _ _ _ _ _ _ _ _ _ (HX.out.below HB9.out) (HY.out.below HB9.out)).mono ?_
        rintro e wa ⟨rfl, hba⟩
        have HBA := Lib.hid (HB9.out.trans (hba.mono HB9.out.size))
        clear hba
        go_wp2
        go_ret
        exact ⟨by simp, HBA.out⟩
      · have dt : decide (t = u) = false := decide_eq_false htu
        have dt2 : (t == u) = false := by simp [htu]
        clear htu
        rw [dt, Bool.false_and]
        go_wp2
        go_ret
        exact ⟨by simp, HB9.out⟩
end Go.Proofs.YtpccbnlbonjklaaDoor

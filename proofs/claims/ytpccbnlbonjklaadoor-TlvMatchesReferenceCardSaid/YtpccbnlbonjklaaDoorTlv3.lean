/- given; tlv.Size; Join, of both. -/
import Derived.Test.YtpccbnlbonjklaaDoorTlv2
import Derived.StillTailTactics
namespace Go.Proofs.YtpccbnlbonjklaaDoor
set_option maxRecDepth 100000
open Go.RowKit

set_option maxHeartbeats 4000000 in
theorem given_any (a : Option Addr) (n c : Nat) (fs : List Fr) (w : World) (hx : Frs w a n c fs) (hn : n ≤ 1099511627776) :
    Calls Tryd.prog 15 #[.slice a n c] w fun e w' => ∃ a' c', e = .returned (.slice a' n c') ∧ Frs w' a' n c' fs ∧ Below w.heap.size w w' := by
  obtain ⟨i0, hi, hz0, hz1, hz2⟩ := info_parts infoT
  obtain ⟨b, off, ha, hc⟩ := hx.loc
  have HC := Lib.hid hc
  have HX := Lib.hid hx
  have hcc := hx.cap
  clear hc hx
  go_enter Tryd.func15, Tryd.ntmps15
  go_wp2
  go_loopw [3, 4] (fun v i wr => ∃ k : Nat, k ≤ n ∧ i = .int .i64 k ∧ wr.ownsRow w.heap.size 48 2 v k (cellsF (fs.take k)) ∧ Below w.heap.size w wr) (fun _ i _ => n - (intOf i).toNat)
  case atStart => exact ⟨0, Nat.zero_le _, rfl, World.ownsRow_nil _ _ _ _, Below.refl _ _⟩
  case round =>
    obtain ⟨k, hk, rfl, hown, hbw⟩ := hrel
    have HO := Lib.hid hown
    have HW := Lib.hid hbw
    have hsw : w.heap.size ≤ wr.heap.size := hbw.size
    clear hown hbw
    rcases ha with rfl | hn0
    all_goals by_cases hlt : k < n
    · have h1 := (HW.out.cell (p := ⟨b, off + k * 2, none⟩) (HC.out k hlt).1).trans (HC.out k hlt).2.1
      have h2 := (HW.out.cell (p := ⟨b, off + k * 2 + 1, none⟩) (HC.out k hlt).1).trans (HC.out k hlt).2.2
      have hst : fs.take k ++ [fr fs k] = fs.take (k + 1) := (take_succ_fr (by rw [HX.out.len]; exact hlt)).symm
      have HST := Lib.hid hst
      clear hst
      go_wp2_with (at_builtin; refine append_fr _ rfl _ _ 24 rfl w.heap.size 48 i0 Tryd.underlying24 hi hz0 hz1 hz2 _ _ (fs.take k) rfl (HO.out.alloc _) wr.heap.size 1 (fr fs k) rfl (by simp) (by simp) (by omega) (by simp; omega) ?_; intro v' w2 HO2 hgrow)
      have HO3 := HO2.out
      rw [HST.out] at HO3
      have HO4 := Lib.hid HO3
      have HW2 := Lib.hid ((HW.out.alloc hsw _).grown hgrow.out (by simp; omega) (fun k' hk' => (HO.out.lt k' hk').1))
      clear HO2 HO3 hgrow HO HW h1 h2
      go_wp2
      go_roundw
      case rel => exact ⟨k + 1, by omega, by go_num, HO4.out, HW2.out⟩
      case measure => simp [intOf]; omega
    · have hkn : k = n := by omega
      subst hkn
      have HO2 := HO.out
      rw [← HX.out.len, List.take_length, HX.out.len] at HO2
      obtain ⟨a', c', rfl, hfr⟩ := Frs.own HO2 (fun f hf => (HX.out.2.2.2.2 f hf).below HW.out)
      have HF := Lib.hid hfr
      clear hfr HO2 HO
      go_wp2
      go_ret
      exact ⟨_, _, rfl, HF.out, HW.out⟩
    · exact absurd hlt (by omega)
    · have hkn : k = n := by omega
      subst hkn
      have HO2 := HO.out
      rw [← HX.out.len, List.take_length, HX.out.len] at HO2
      obtain ⟨a', c', rfl, hfr⟩ := Frs.own HO2 (fun f hf => (HX.out.2.2.2.2 f hf).below HW.out)
      have HF := Lib.hid hfr
      clear hfr HO2 HO
      go_wp2
      go_ret
      exact ⟨_, _, rfl, HF.out, HW.out⟩

/-! Size -/
def szF (fs : List Fr) : List Int := fs.map fun f => 4 + (f.p.n : Int)
theorem szF_take {fs : List Fr} {k : Nat} (h : k < fs.length) : szF (fs.take k) ++ [4 + ((fr fs k).p.n : Int)] = szF (fs.take (k + 1)) := by rw [take_succ_fr h]; simp [szF]
theorem szF_length (fs : List Fr) : (szF fs).length = fs.length := by simp [szF]
set_option maxHeartbeats 4000000 in
theorem size_any (a : Option Addr) (n c : Nat) (fs : List Fr) (w : World) (hx : Frs w a n c fs) (hn : n ≤ 1000000) (hB : ∀ f ∈ fs, f.p.n ≤ 1000000) :
    Calls Tryd.prog 17 #[.slice a n c] w fun e w' => e = .returned (.int .i64 (Pd.szs (szF fs))) ∧ Below w.heap.size w w' := by
  obtain ⟨i0, hi, hz0, hz1, hz2⟩ := info_parts info_int
  obtain ⟨b, off, ha, hc⟩ := hx.loc
  have HC := Lib.hid hc
  have HX := Lib.hid hx
  have HBB := Lib.hid hB
  have hcc := hx.cap
  clear hc hx hB
  go_enter Tryd.func17, Tryd.ntmps17
  go_wp2
  go_loopw [3, 8] (fun v i wr => ∃ k : Nat, k ≤ n ∧ i = .int .i64 k ∧ wr.ownsRow w.heap.size 3 1 v k ((szF (fs.take k)).map (Value.int .i64)) ∧ Below w.heap.size w wr) (fun _ i _ => n - (intOf i).toNat)
  case atStart => exact ⟨0, Nat.zero_le _, rfl, World.ownsRow_nil _ _ _ _, Below.refl _ _⟩
  case round =>
    obtain ⟨k, hk, rfl, hown, hbw⟩ := hrel
    have HO := Lib.hid hown
    have HW := Lib.hid hbw
    have hsw : w.heap.size ≤ wr.heap.size := hbw.size
    clear hown hbw
    rcases ha with rfl | hn0
    all_goals by_cases hlt : k < n
    · have h1 := (HW.out.cell (p := ⟨b, off + k * 2, none⟩) (HC.out k hlt).1).trans (HC.out k hlt).2.1
      have h2 := (HW.out.cell (p := ⟨b, off + k * 2 + 1, none⟩) (HC.out k hlt).1).trans (HC.out k hlt).2.2
      have hfn := HBB.out _ (fr_mem (fs := fs) (k := k) (by rw [HX.out.len]; exact hlt))
      have hst := szF_take (fs := fs) (k := k) (by rw [HX.out.len]; exact hlt)
      have HST := Lib.hid hst
      obtain ⟨f, hf⟩ : ∃ f, f = fr fs k := ⟨_, rfl⟩
      rw [← hf] at h1 h2 hfn HST
      clear hst hf
      go_wp2_with (at_builtin; refine append_own_any _ rfl _ _ 30 rfl w.heap.size 3 i0 (.int .i64 0) 8 Tryd.underlying30 hi hz0 hz1 hz2 rfl _ _ _ rfl ((HO.out.alloc _).alloc _) _ _ _ [.int .i64 (4 + (f.p.n : Int))] rfl (Sl.at _ _ [.int .i64 (4 + (f.p.n : Int))] 3 1 (by simp) rfl (by omega)) (Wr.ints_oneCell .i64 [4 + (f.p.n : Int)]) (by unfold maxLen; omega) (by omega) (by simp; omega) ?_; intro v' w2 HO2 hgrow)
      have HO3 := HO2.out
      rw [show (szF (fs.take k)).map (Value.int .i64) ++ [.int .i64 (4 + (f.p.n : Int))] = (szF (fs.take (k + 1))).map (Value.int .i64) by rw [← HST.out, List.map_append]; rfl] at HO3
      have HO4 := Lib.hid HO3
      have HW2 := Lib.hid (((HW.out.alloc hsw _).alloc (by simp; omega) _).grown hgrow.out (by simp; omega) (fun k' hk' => (HO.out.lt k' hk').1))
      clear HO2 HO3 hgrow HO HW h1 h2
      go_wp2
      go_roundw
      case rel => exact ⟨k + 1, by omega, by go_num, HO4.out, HW2.out⟩
      case measure => simp [intOf]; omega
    · have hkn : k = n := by omega
      subst hkn
      have HO2 := HO.out
      rw [← HX.out.len, List.take_length, HX.out.len] at HO2
      obtain ⟨a', c', rfl, hfr⟩ := Ints.own HO2
      have HF := Lib.hid hfr
      clear hfr HO2 HO
      go_wp2_with fail
      refine (Pd.sizes_any _ _ _ _ _ HF.out (by omega) (fun z hz => ?_)).mono ?_
      · obtain ⟨f, hf, rfl⟩ := List.mem_map.1 hz
        have := HBB.out f hf
        omega
      rintro e w' ⟨rfl, hb⟩
      have HB := Lib.hid (HW.out.trans (hb.mono hsw))
      clear hb
      go_wp2
      go_ret
      exact ⟨rfl, HB.out⟩
    · exact absurd hlt (by omega)
    · have hkn : k = n := by omega
      subst hkn
      have HO2 := HO.out
      rw [← HX.out.len, List.take_length, HX.out.len] at HO2
      obtain ⟨a', c', rfl, hfr⟩ := Ints.own HO2
      have HF := Lib.hid hfr
      clear hfr HO2 HO
      go_wp2_with fail
      refine (Pd.sizes_any _ _ _ _ _ HF.out (by omega) (fun z hz => ?_)).mono ?_
      · obtain ⟨f, hf, rfl⟩ := List.mem_map.1 hz
        have := HBB.out f hf
        omega
      rintro e w' ⟨rfl, hb⟩
      have HB := Lib.hid (HW.out.trans (hb.mono hsw))
      clear hb
      go_wp2
      go_ret
      exact ⟨rfl, HB.out⟩
end Go.Proofs.YtpccbnlbonjklaaDoor

/- The reference's Join. -/
import Derived.Test.YtpccbnlbonjklaaDoorTlv4
import Derived.Deep.AppendLies
namespace Go.Proofs.YtpccbnlbonjklaaDoor
set_option maxRecDepth 100000
open Go.RowKit

theorem lies4 (w : World) (a b c d : Int) (e : TypeId) : ∀ j u, ([a, b, c, d].map (Value.int .u8))[j]? = some u → (w.alloc (.cells #[.int .u8 a, .int .u8 b, .int .u8 c, .int .u8 d] e)).drew.cell? ((⟨w.heap.size, 0, none⟩ : Addr).add j) = some u := by
  intro j u hu
  rw [Addr.add_lit]
  have h := (Sl.at w w.heap.size ([a, b, c, d].map (Value.int .u8)) e 4 rfl rfl (by omega)).2.2.2.2 (by omega)
  obtain ⟨b', o', hb, _, hc⟩ := h
  cases hb
  exact hc j u hu
theorem hd_c (m : Int) (h0 : 0 ≤ m) (h1 : m ≤ 65535) : IntKind.u8.wrap (IntKind.i64.wrap (m.tdiv 256)) = m / 256 % 256 := by
  have h2 : m.tdiv 256 = m / 256 := Int.tdiv_eq_ediv_of_nonneg h0
  have h3 : 0 ≤ m / 256 := by omega
  have h4 : m / 256 ≤ 255 := by omega
  rw [h2, IntKind.wrap_u8]
  generalize m / 256 = x at *
  rw [IntKind.wrap_i64]
  omega
theorem hd_d (m : Int) (h0 : 0 ≤ m) : IntKind.u8.wrap (m.tmod 256) = m % 256 := by
  rw [Int.tmod_eq_emod_of_nonneg h0, IntKind.wrap_u8]
  omega
theorem part_leF {fs : List Fr} {k : Nat} (h : k < fs.length) : (fr fs k).p.n ≤ sumF fs := by
  have h1 := sumF_take h
  have h2 := sumF_le fs (k + 1)
  omega
set_option maxHeartbeats 4000000 in
theorem refJoin_any (a : Option Addr) (n c : Nat) (fs : List Fr) (w : World) (hx : Frs w a n c fs) (hn : n ≤ 1000000) (hs : sumF fs ≤ 1000000000) :
    Calls Tryd.prog 16 #[.slice a n c] w fun e w' => (fitsF fs = true ∧ (∃ a' c', e = .returned (.tuple #[.slice a' (joinL (msF fs)).length c', .bool true]) ∧ Ints .u8 w' a' (joinL (msF fs)).length c' (joinL (msF fs))) ∨ fitsF fs = false ∧ e = .returned (.tuple #[.slice none 0 0, .bool false])) ∧ Below w.heap.size w w' := by
  obtain ⟨i0, hi, hz0, hz1, hz2⟩ := info_parts Pd.info5
  obtain ⟨b, off, ha, hc⟩ := hx.loc
  have HC := Lib.hid hc
  have HX := Lib.hid hx
  have hcc := hx.cap
  have HLE : ∀ k, Hid ((joinL (msF (fs.take k))).length ≤ 1007000000) := fun k => by
    have h1 := joinL_le (w := w) (fs.take k) (fun f hf => hx.2.2.2.2 f (List.mem_of_mem_take hf))
    have h2 := sumF_le fs k
    have h3 : (fs.take k).length ≤ n := by rw [← hx.len, List.length_take]; omega
    unfold Hid
    omega
  clear hc hx
  go_enter Tryd.func16, Tryd.ntmps16
  go_wp2
  go_loopw [4, 5, 6] (fun v i _ wr => ∃ k : Nat, k ≤ n ∧ i = .int .i64 k ∧ Hid (∀ j, j < k → (fr fs j).p.n ≤ 65531) ∧ wr.ownsRow w.heap.size 5 1 v (joinL (msF (fs.take k))).length ((joinL (msF (fs.take k))).map (Value.int .u8)) ∧ Below w.heap.size w wr) (fun _ i _ _ => n - (intOf i).toNat)
  case atStart => exact ⟨0, Nat.zero_le _, rfl, Lib.hid (fun j hj => absurd hj (by omega)), World.ownsRow_nil _ _ _ _, Below.refl _ _⟩
  case round =>
    obtain ⟨k, hk, rfl, HFT, hown, hbw⟩ := hrel
    obtain ⟨a4, c4, rfl, hi4⟩ := Ints.own hown
    have HO := Lib.hid hown
    have HI4 := Lib.hid hi4
    have HW := Lib.hid hbw
    have hsw : w.heap.size ≤ wr.heap.size := hbw.size
    clear hown hbw hi4
    rcases ha with rfl | hn0
    all_goals by_cases hlt : k < n
    · have h1 := (HW.out.cell (p := ⟨b, off + k * 2, none⟩) (HC.out k hlt).1).trans (HC.out k hlt).2.1
      have h2 := (HW.out.cell (p := ⟨b, off + k * 2 + 1, none⟩) (HC.out k hlt).1).trans (HC.out k hlt).2.2
      have hkl : k < fs.length := by rw [HX.out.len]; exact hlt
      have hst := joinL_take hkl
      have HOK := Lib.hid (HX.out.2.2.2.2 _ (fr_mem hkl))
      have HBY := Lib.hid (joinL_byt (w := w) (fs.take k) (fun f hf => HX.out.2.2.2.2 f (List.mem_of_mem_take hf)))
      have hle1 := HLE k
      have hle2 := HLE (k + 1)
      have hfb : (fr fs k).p.n ≤ 1000000000 := Nat.le_trans (part_leF hkl) hs
      by_cases hfn : (fr fs k).p.n ≤ 65531
      · have HFN := Lib.hid hfn
        have HFX : Hid (∀ j, j < k + 1 → (fr fs j).p.n ≤ 65531) := fun j hj => by
          by_cases e : j = k
          · rw [e]; exact hfn
          · exact HFT.out j (by omega)
        clear hfn
        obtain ⟨f, hf⟩ : ∃ f, f = fr fs k := ⟨_, rfl⟩
        obtain ⟨L, hL⟩ : ∃ L, L = joinL (msF (fs.take k)) := ⟨_, rfl⟩
        obtain ⟨L2, hL2⟩ : ∃ L2, L2 = joinL (msF (fs.take (k + 1))) := ⟨_, rfl⟩
        rw [← hf] at h1 h2 HFN HOK hst
        have hz0' := (HC.out k hlt).1
        have hz2' := (HC.out k hlt).2.2
        rw [← hf] at hz2'
        have HZ0 := Lib.hid hz0'
        have HZ2 := Lib.hid hz2'
        have hz1' := (HC.out k hlt).2.1
        rw [← hf] at hz1'
        have HZ1 := Lib.hid hz1'
        clear hz0' hz2' hz1'
        rw [← hL] at HO HI4 HBY hle1 hst ⊢
        rw [← hL2] at hst hle2
        have HST := Lib.hid hst
        have HL2 := Lib.hid hL2
        clear hst hf hL hL2
        have hd : decide (65535 < 4 + (f.p.n : Int)) = false := by have := HFN.out; simp; omega
        have hn4 := HFN.out
        go_wp2_with fail
        refine (Pd.refbytes_any _ _ _ _ _ HI4.out (by have := hle1.out; omega)).mono ?_
        rintro e w3 ⟨v5, rfl, ho3, hb3⟩
        have HW3 := Lib.hid (HW.out.trans (hb3.mono hsw))
        have HO3 := Lib.hid (own_base ho3 hsw)
        have x1 := (hb3.cell (p := ⟨b, off + k * 2, none⟩) (lt_of_cell h1)).trans h1
        have x2 := (hb3.cell (p := ⟨b, off + k * 2 + 1, none⟩) (lt_of_cell h2)).trans h2
        have hg := Pd.gap_bd L.length
        have hlen2 : L2.length = L.length + (Pd.gap L.length).toNat + (f.p.n + 4) := by rw [HST.out, List.length_append, padB_length, encF_length, m_len HOK.out]
        have HLN := Lib.hid hlen2
        clear ho3 hb3 h1 h2
        go_wp2
        have ha1 : IntKind.u8.wrap (f.t / 256) = f.t / 256 % 256 := IntKind.wrap_u8 _
        have ha2 : IntKind.u8.wrap f.t = f.t % 256 := IntKind.wrap_u8 _
        have ha3 := hd_c (4 + (f.p.n : Int)) (by omega) (by omega)
        have ha4 := hd_d (4 + (f.p.n : Int)) (by omega)
        have hblt : b < w3.heap.size := lt_of_cell x1
        have hsw3 := HW3.out.size
        go_region_held3 (fun w' => w'.cell? ⟨b, off + k * 2, none⟩ = some (.int .u16 f.t)) (first | exact z1 | exact x1 | exact (World.cell?_alloc_lt _ _ ⟨b, off + k * 2, none⟩ hblt).trans x1 | go_keep)
          (first
            | (refine step_append_lies _ rfl _ _ 22 rfl w.heap.size 5 i0 (.int .u8 0) 1 1 Tryd.underlying22 hi hz0 hz1 hz2 rfl (by decide) v5 _ _ rfl (HO3.out.alloc _) ⟨w3.heap.size, 0, none⟩ 4 4 ([f.t / 256 % 256, f.t % 256, (4 + (f.p.n : Int)) / 256 % 256, (4 + (f.p.n : Int)) % 256].map (Value.int .u8)) rfl rfl (lies4 w3 _ _ _ _ _) (Wr.ints_oneCell .u8 _) (by decide) (by unfold maxLen; have := hle2.out; omega) (by have := hle2.out; omega) (by simp; omega) _ rfl ?_; intro g cap w5 hown5 hgrow hat hlt5; have HO5 := Lib.hid hown5; have HW5 := Lib.hid (((HW3.out.alloc hsw3 _).drew).grown hgrow (by simp; omega) (fun k' hk' => (HO3.out.lt k' hk').1)); have z1 := (HW5.out.cell (p := ⟨b, off + k * 2, none⟩) HZ0.out).trans HZ1.out; have z2 := (HW5.out.cell (p := ⟨b, off + k * 2 + 1, none⟩) HZ0.out).trans HZ2.out; clear hgrow hown5))
        go_wp2_with (at_builtin; refine append_own_any _ rfl _ _ 22 rfl w.heap.size 5 i0 (.int .u8 0) 1 Tryd.underlying22 hi hz0 hz1 hz2 rfl (.slice (some ⟨g, 0, none⟩) (L.length + (Pd.gap L.length).toNat + 4) cap) _ _ rfl HO5.out _ _ _ _ rfl (HOK.out.1.below HW5.out) (Wr.ints_oneCell .u8 _) (by unfold maxLen; have := hle2.out; omega) (by have := hle2.out; omega) HW5.out.size ?_; intro v7 w6 hown7 hgrow7)
        have hown' := hown7.out
        rw [← List.map_append, ← List.map_append, show L ++ List.replicate (Pd.gap L.length).toNat 0 ++ [f.t / 256 % 256, f.t % 256, (4 + (f.p.n : Int)) / 256 % 256, (4 + (f.p.n : Int)) % 256] ++ f.p.zs = L2 by rw [HST.out, padB, encF, List.append_assoc]; simp only [Fr.m]; rw [HOK.out.1.len], show L.length + (Pd.gap L.length).toNat + 4 + f.p.n = L2.length by rw [HLN.out]; omega, HL2.out] at hown'
        have HO6 := Lib.hid hown'
        have HW6 := Lib.hid (HW5.out.grown hgrow7.out HW5.out.size (fun k' hk' => (HO5.out.lt k' hk').1))
        clear hown' hown7 hgrow7
        go_wp2
        go_roundw
        case rel => exact ⟨k + 1, by omega, by go_num, HFX, HO6.out, HW6.out⟩
        case measure => simp [intOf]; omega
      · have HFN := Lib.hid hfn
        have hd : decide (65535 < 4 + ((fr fs k).p.n : Int)) = true := by simp; omega
        clear hfn hst
        go_wp2
        go_ret2
        exact ⟨.inr ⟨fits_no hkl HFN.out, rfl⟩, HW.out⟩
    · have hkn : k = n := by omega
      subst hkn
      have HFY := Lib.hid (fits_yes (fs := fs) (by rw [HX.out.len]; exact HFT.out))
      rw [← HX.out.len, List.take_length] at HI4 ⊢
      go_wp2
      go_ret2
      exact ⟨.inl ⟨HFY.out, _, _, rfl, HI4.out⟩, HW.out⟩
    · exact absurd hlt (by omega)
    · have hkn : k = n := by omega
      subst hkn
      have HFY := Lib.hid (fits_yes (fs := fs) (by rw [HX.out.len]; exact HFT.out))
      rw [← HX.out.len, List.take_length] at HI4 ⊢
      go_wp2
      go_ret2
      exact ⟨.inl ⟨HFY.out, _, _, rfl, HI4.out⟩, HW.out⟩
end Go.Proofs.YtpccbnlbonjklaaDoor

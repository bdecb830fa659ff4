/- Join, of both. -/
import Derived.Test.YtpccbnlbonjklaaDoorTlv3
namespace Go.Proofs.YtpccbnlbonjklaaDoor
set_option maxRecDepth 100000
open Go.RowKit

/-- bytes with their padding -/
def padB (zs : List Int) : List Int := zs ++ List.replicate (Pd.gap zs.length).toNat 0
theorem padB_length (zs : List Int) : (padB zs).length = zs.length + (Pd.gap zs.length).toNat := by simp [padB]
theorem padB_le (zs : List Int) : (padB zs).length ≤ zs.length + 3 := by rw [padB_length]; have := Pd.gap_bd zs.length; omega
def joinL (ms : List (Int × List Int)) : List Int := ms.foldl (fun out f => padB out ++ encF f) []
theorem joinL_snoc (ms : List (Int × List Int)) (f : Int × List Int) : joinL (ms ++ [f]) = padB (joinL ms) ++ encF f := by simp [joinL]
def msF (fs : List Fr) : List (Int × List Int) := fs.map Fr.m
theorem joinL_take {fs : List Fr} {k : Nat} (h : k < fs.length) : joinL (msF (fs.take (k + 1))) = padB (joinL (msF (fs.take k))) ++ encF (fr fs k).m := by
  rw [take_succ_fr h, msF, List.map_append]
  exact joinL_snoc _ _
theorem m_len {w : World} {f : Fr} (h : f.ok w) : f.m.2.length = f.p.n := h.1.len
theorem joinL_le {w : World} : ∀ (fs : List Fr), (∀ f ∈ fs, f.ok w) → (joinL (msF fs)).length ≤ sumF fs + 7 * fs.length := by
  intro fs
  have H : ∀ (l : List Fr) (out : List Int), (∀ f ∈ l, f.ok w) → ((msF l).foldl (fun out f => padB out ++ encF f) out).length ≤ out.length + sumF l + 7 * l.length := by
    intro l
    induction l with
    | nil => intro out _; simp [msF]
    | cons f l ih =>
      intro out h
      have h1 := ih (padB out ++ encF f.m) (fun g hg => h g (by simp [hg]))
      have h2 := padB_le out
      have h3 := encF_length f.m
      have h4 := m_len (h f (by simp))
      simp only [msF, List.map_cons, List.foldl_cons, List.length_append, sumF, List.sum_cons, List.length_cons] at *
      omega
  intro h
  have := H fs [] h
  simpa [joinL] using this
theorem encF_byt {t : Int} {zs : List Int} (hb : Byt zs) : Byt (encF (t, zs)) := by
  intro z hz
  simp only [encF, List.mem_append, List.mem_cons, List.not_mem_nil, or_false] at hz
  rcases hz with (h | h | h | h) | h
  · omega
  · omega
  · omega
  · omega
  · exact hb z h
theorem padB_byt {zs : List Int} (h : Byt zs) : Byt (padB zs) := h.append (Byt.replicate _)
theorem joinL_byt {w : World} : ∀ (fs : List Fr), (∀ f ∈ fs, f.ok w) → Byt (joinL (msF fs)) := by
  intro fs
  have H : ∀ (l : List Fr) (out : List Int), Byt out → (∀ f ∈ l, f.ok w) → Byt ((msF l).foldl (fun out f => padB out ++ encF f) out) := by
    intro l
    induction l with
    | nil => intro out h _; exact h
    | cons f l ih => intro out ho h; exact ih _ ((padB_byt ho).append (encF_byt (h f (by simp)).2.1)) (fun g hg => h g (by simp [hg]))
  exact fun h => H fs [] (fun z hz => by cases hz) h
def fitsF (fs : List Fr) : Bool := fs.all fun f => decide (f.p.n ≤ 65531)
theorem fits_no {fs : List Fr} {k : Nat} (hk : k < fs.length) (h : ¬ (fr fs k).p.n ≤ 65531) : fitsF fs = false := by
  rw [fitsF, List.all_eq_false]
  exact ⟨_, fr_mem hk, by simpa using h⟩
theorem fits_yes {fs : List Fr} (h : ∀ j, j < fs.length → (fr fs j).p.n ≤ 65531) : fitsF fs = true := by
  rw [fitsF, List.all_eq_true]
  intro f hf
  obtain ⟨k, hk, rfl⟩ := List.getElem_of_mem hf
  have := h k hk
  rw [fr_lt hk] at this
  simpa using this

set_option maxHeartbeats 4000000 in
theorem tJoin_any (a : Option Addr) (n c : Nat) (fs : List Fr) (w : World) (hx : Frs w a n c fs) (hn : n ≤ 1000000) (hs : sumF fs ≤ 1000000000) :
    Calls Tryd.prog 10 #[.slice a n c] w fun e w' => (fitsF fs = true ∧ (∃ a' c', e = .returned (.tuple #[.slice a' (joinL (msF fs)).length c', .bool true]) ∧ Ints .u8 w' a' (joinL (msF fs)).length c' (joinL (msF fs))) ∨ fitsF fs = false ∧ e = .returned (.tuple #[.slice none 0 0, .bool false])) ∧ Below w.heap.size w w' := by
  obtain ⟨i0, hi, hz0, hz1, hz2⟩ := info_parts Pd.info5
  obtain ⟨b, off, ha, hc⟩ := hx.loc
  have HC := Lib.hid hc
  have HX := Lib.hid hx
  have hcc := hx.cap
  have HLE : ∀ k, Hid ((joinL (msF (fs.take k))).length ≤ 1007000000) := fun k => by
    have h1 := joinL_le (w := w) (fs.take k) (fun f hf => hx.2.2.2.2 f (List.mem_of_mem_take hf))
    have h2 := sumF_le fs k
    have h3 : (fs.take k).length ≤ n := by rw [← hx.len, List.length_take]; omega
    unfold Hid
    omega
  clear hc hx
  go_enter Tryd.func10, Tryd.ntmps10
  go_wp2
  go_loopw [4, 11] (fun v i wr => ∃ k : Nat, k ≤ n ∧ i = .int .i64 k ∧ Hid (∀ j, j < k → (fr fs j).p.n ≤ 65531) ∧ wr.ownsRow w.heap.size 5 1 v (joinL (msF (fs.take k))).length ((joinL (msF (fs.take k))).map (Value.int .u8)) ∧ Below w.heap.size w wr) (fun _ i _ => n - (intOf i).toNat)
  case atStart => exact ⟨0, Nat.zero_le _, rfl, Lib.hid (fun j hj => absurd hj (by omega)), World.ownsRow_nil _ _ _ _, Below.refl _ _⟩
  case round =>
    obtain ⟨k, hk, rfl, HFT, hown, hbw⟩ := hrel
    obtain ⟨a4, c4, rfl, hi4⟩ := Ints.own hown
    have HO := Lib.hid hown
    have HI4 := Lib.hid hi4
    have HW := Lib.hid hbw
    have hsw : w.heap.size ≤ wr.heap.size := hbw.size
    clear hown hbw hi4
    rcases ha with rfl | hn0
    all_goals by_cases hlt : k < n
    · have h1 := (HW.out.cell (p := ⟨b, off + k * 2, none⟩) (HC.out k hlt).1).trans (HC.out k hlt).2.1
      have h2 := (HW.out.cell (p := ⟨b, off + k * 2 + 1, none⟩) (HC.out k hlt).1).trans (HC.out k hlt).2.2
      have hkl : k < fs.length := by rw [HX.out.len]; exact hlt
      have hst := joinL_take hkl
      have HOK := Lib.hid (HX.out.2.2.2.2 _ (fr_mem hkl))
      have HBY := Lib.hid (joinL_byt (w := w) (fs.take k) (fun f hf => HX.out.2.2.2.2 f (List.mem_of_mem_take hf)))
      have hle1 := HLE k
      have hle2 := HLE (k + 1)
      by_cases hfn : (fr fs k).p.n ≤ 65531
      · have HFN := Lib.hid hfn
        have HFX : Hid (∀ j, j < k + 1 → (fr fs j).p.n ≤ 65531) := fun j hj => by
          by_cases e : j = k
          · rw [e]; exact hfn
          · exact HFT.out j (by omega)
        clear hfn
        obtain ⟨f, hf⟩ : ∃ f, f = fr fs k := ⟨_, rfl⟩
        obtain ⟨L, hL⟩ : ∃ L, L = joinL (msF (fs.take k)) := ⟨_, rfl⟩
        obtain ⟨L2, hL2⟩ : ∃ L2, L2 = joinL (msF (fs.take (k + 1))) := ⟨_, rfl⟩
        rw [← hf] at h1 h2 HFN HOK hst
        rw [← hL] at HO HI4 HBY hle1 hst ⊢
        rw [← hL2] at hst hle2
        have HST := Lib.hid hst
        have HL2 := Lib.hid hL2
        clear hst hf hL hL2
        go_wp2_with fail
        refine (putf_yes f _ (HOK.out.below (HW.out.alloc hsw _)) HFN.out).mono ?_
        rintro e w2 ⟨a2, c2, rfl, ho2, hb2⟩
        have HO2 := Lib.hid ho2
        have HWW2 := Lib.hid ((HW.out.alloc hsw _).trans (hb2.mono (by simp; omega)))
        have HI5 := Lib.hid (HI4.out.below (((Below.refl _ wr).alloc (Nat.le_refl _) _).trans (hb2.mono (by simp))))
        clear ho2 hb2
        go_wp2_with fail
        refine (Pd.bytes_any _ _ _ _ _ HI5.out HBY.out (by have := hle1.out; omega)).mono ?_
        rintro e w3 ⟨v5, rfl, ho3, hb3⟩
        have HI6 := Lib.hid ((ints_of HO2.out).below hb3)
        have HW3 := Lib.hid (HWW2.out.trans (hb3.mono HWW2.out.size))
        have HO3 := Lib.hid (own_base ho3 HWW2.out.size)
        have hg := Pd.gap_bd L.length
        have hlen2 : L2.length = L.length + (Pd.gap L.length).toNat + (f.p.n + 4) := by rw [HST.out, List.length_append, padB_length, encF_length, m_len HOK.out]
        have HLN := Lib.hid hlen2
        clear ho3 hb3
        go_wp2_with (at_builtin; refine append_own_any _ rfl _ _ 22 rfl w.heap.size 5 i0 (.int .u8 0) 1 Tryd.underlying22 hi hz0 hz1 hz2 rfl v5 _ _ rfl HO3.out _ _ _ _ rfl HI6.out (Wr.ints_oneCell .u8 _) (by unfold maxLen; have := hle2.out; omega) (by have := hle2.out; omega) HW3.out.size ?_; intro v' w4 hown1 hgrow)
        have hown' := hown1.out
        rw [← List.map_append, show L ++ List.replicate (Pd.gap L.length).toNat 0 ++ encF f.m = L2 from HST.out.symm, ← HLN.out, HL2.out] at hown'
        have HO5 := Lib.hid hown'
        have HW5 := Lib.hid (HW3.out.grown hgrow.out HW3.out.size (fun k' hk' => (HO3.out.lt k' hk').1))
        clear hown' hown1 hgrow HO3
        go_wp2
        go_roundw
        case rel => exact ⟨k + 1, by omega, by go_num, HFX, HO5.out, HW5.out⟩
        case measure => simp [intOf]; omega
      · have HFN := Lib.hid hfn
        clear hfn hst
        go_wp2_with fail
        refine (putf_no (fr fs k) _ (by have := HFN.out; omega)).mono ?_
        rintro e w2 ⟨rfl, hb2⟩
        have HWW2 := Lib.hid ((HW.out.alloc hsw _).trans (hb2.mono (by simp; omega)))
        clear hb2
        go_wp2
        go_ret2
        exact ⟨.inr ⟨fits_no hkl HFN.out, rfl⟩, HWW2.out⟩
    · have hkn : k = n := by omega
      subst hkn
      have HFY := Lib.hid (fits_yes (fs := fs) (by rw [HX.out.len]; exact HFT.out))
      rw [← HX.out.len, List.take_length] at HI4 ⊢
      go_wp2
      go_ret2
      exact ⟨.inl ⟨HFY.out, _, _, rfl, HI4.out⟩, HW.out⟩
    · exact absurd hlt (by omega)
    · have hkn : k = n := by omega
      subst hkn
      have HFY := Lib.hid (fits_yes (fs := fs) (by rw [HX.out.len]; exact HFT.out))
      rw [← HX.out.len, List.take_length] at HI4 ⊢
      go_wp2
      go_ret2
      exact ⟨.inl ⟨HFY.out, _, _, rfl, HI4.out⟩, HW.out⟩
end Go.Proofs.YtpccbnlbonjklaaDoor

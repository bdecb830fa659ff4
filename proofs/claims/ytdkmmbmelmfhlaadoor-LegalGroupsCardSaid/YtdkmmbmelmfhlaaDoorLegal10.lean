/- The reference's Groups, and the plain law of groups. -/
import Derived.Test.YtdkmmbmelmfhlaaDoorLegal9
namespace Go.Proofs.YtdkmmbmelmfhlaaDoor
open Go.RowKit

theorem legal_pre {zs : List Int} {k : Nat} (h : ∀ j, j < k → okAt zs j = true) (h0 : 0 < k) (hk : k ≤ zs.length) : legalB (zs.take k) = true :=
  legal_all (by simp; omega) fun j hj => by
    have hj2 : j < k := by simp at hj; omega
    rw [take_ok k hk hj2]; exact h j hj2
/-- the length of the first group, by its law -/
theorem step_is {zs : List Int} {k : Nat} (h : ∀ j, j < k → okAt zs j = true) (hl : k = zs.length ∨ k < zs.length ∧ okAt zs k = false) : stepN zs = k := by
  unfold stepN
  rcases hl with rfl | ⟨hlt, hl⟩
  · rw [first_none h]; rfl
  · rw [first_some hlt hl h]
    rw [if_neg (by omega)]; omega
theorem step_law {zs : List Int} (h : 0 < zs.length) : legalB (zs.take (stepN zs)) = true ∧ (stepN zs < zs.length → mayB (nth zs (stepN zs)) (zs.take (stepN zs)) = false) := by
  have hb := step_bd h
  rcases first_cases zs with ⟨h1, h2⟩ | ⟨k, hk, h1, h2, h3⟩
  · have e : stepN zs = zs.length := by unfold stepN; rw [h1]; rfl
    rw [e]
    exact ⟨legal_pre h2 h (Nat.le_refl _), fun hh => absurd hh (by omega)⟩
  · have e : stepN zs = k := by unfold stepN; rw [h1, if_neg (by omega)]; omega
    rw [e] at hb ⊢
    exact ⟨legal_pre h3 (by omega) (by omega), fun _ => h2⟩
theorem okAt_drop {zs : List Int} {s k : Nat} (hs : s ≤ k) : okAt (zs.drop s) (k - s) = mayB (nth zs k) ((zs.take k).drop s) := by
  have h1 : nth (zs.drop s) (k - s) = nth zs k := by
    unfold nth
    rw [List.getD_eq_getElem?_getD, List.getD_eq_getElem?_getD, List.getElem?_drop, Nat.add_sub_cancel' hs]
  have h2 : (zs.drop s).take (k - s) = (zs.take k).drop s := by rw [List.drop_take]
  unfold okAt
  rw [h1, h2]


set_option maxHeartbeats 16000000 in
/-- the reference's Groups -/
theorem refgroups_any (a : Option Addr) (n c : Nat) (zs : List Int) (w : World) (hx : Ints .u8 w a n c zs) (hn : n ≤ 100) :
    Calls Tryd.prog 15 #[.slice a n c] w fun e w' => ∃ v m, e = .returned v ∧ w'.ownsRow w.heap.size 3 1 v m ((groupsL zs).map (Value.int .i64)) ∧ Below w.heap.size w w' := by
  obtain ⟨i0, hi, hz0, hz1, hz2⟩ := info_parts info3
  have hcc := hx.cap
  have HX := Lib.hid hx
  have HL := Lib.hid hx.len
  obtain ⟨b1, o1, ha, hcx⟩ := hx.loc
  have HC := Lib.hid hcx
  clear hx hcx
  rcases ha with rfl | hn0
  all_goals
    go_enter Tryd.func15, Tryd.ntmps15
    go_wp2
    go_loopw [3, 4, 5] (fun o s i wr => ∃ (T f m : Nat) (gs : List Int) (ao : Option Addr) (co : Nat), 1 ≤ T ∧ T ≤ n + 1 ∧ f < T ∧ f ≤ n ∧ m ≤ f ∧ Hid (T = n + 1 → f = n) ∧ i = .int .i64 T ∧ s = .int .i64 f ∧ o = .slice ao m co ∧
        wr.ownsRow w.heap.size 3 1 o m (gs.map (Value.int .i64)) ∧ gs ++ groupsL (zs.drop f) = groupsL zs ∧ (∀ j, j < T - f → T ≤ n → okAt (zs.drop f) j = true) ∧ Below w.heap.size w wr)
      (fun _ _ i _ => n + 1 - (intOf i).toNat)
    case atStart => exact ⟨1, 0, 0, [], none, 0, Nat.le_refl _, by omega, by omega, by omega, by omega, Lib.hid (fun h => by omega), rfl, rfl, rfl, World.ownsRow_nil _ _ _ _, rfl, fun j hj _ => by
      obtain rfl : j = 0 := by omega
      rfl, Below.refl _ _⟩
    case round =>
      obtain ⟨T, f, m, gs, ao, co, hT1, hT, hf, hfn, hm, HF, rfl, rfl, rfl, hown, heq, hok, hbw⟩ := hrel
      have HO := Lib.hid hown
      have HE := Lib.hid heq
      have HK := Lib.hid hok
      have HW := Lib.hid hbw
      have hsw : w.heap.size ≤ wr.heap.size := hbw.size
      clear hown heq hok hbw
      by_cases hlt : T ≤ n
      · try (exfalso; omega)
        all_goals
          have hnl : Hid ((zs.drop f).length = n - f) := by
            have := HL.out
            unfold Hid; rw [List.length_drop, this]
          -- where a group ends at T
          have hend : (T = n ∨ okAt (zs.drop f) (T - f) = false) → Hid ((gs ++ [(T : Int) - (f : Int)]) ++ groupsL (zs.drop T) = groupsL zs) := fun h => by
            have hst : stepN (zs.drop f) = T - f := step_is (fun j hj => HK.out j hj hlt) (by
              rw [hnl.out]
              by_cases e : T = n
              · exact .inl (by omega)
              · exact .inr ⟨by omega, h.resolve_left e⟩)
            have hgr := groups_step (zs := zs.drop f) (by rw [hnl.out]; omega)
            rw [hst, List.drop_drop, show f + (T - f) = T by omega] at hgr
            unfold Hid
            rw [← HE.out, hgr, show ((T - f : Nat) : Int) = (T : Int) - (f : Int) by omega]; simp
          have i1 : (f : Int) ≤ (T : Int) := by omega
          have i2 : (T : Int) ≤ (c : Int) := by omega
          have i3 : (f : Int) ≤ (c : Int) := by omega
          have hcf : ¬ c = f := by omega
          by_cases hlast : T = n
          · have hd : ((T : Int) == (n : Int)) = true := by simp; omega
            have HE2 := hend (.inl hlast)
            clear hend hd
            subst hlast
            go_wp2_with fail
            go_quiet (fail)
            have HOq := Lib.hid (own_below HO.out (below_drewN (Below.refl wr.heap.size wr) nq))
            have HWq := Lib.hid (below_drewN HW.out nq)
            have hsq : w.heap.size ≤ (wr.drewN nq).heap.size := HWq.out.size
            generalize wr.drewN nq = wq at HOq HWq hsq ⊢
            go_wp2_with (at_builtin; refine append_own_any _ rfl _ _ 31 rfl w.heap.size 3 i0 (.int .i64 0) 8 Tryd.underlying31 hi hz0 hz1 hz2 rfl (.slice ao m co) _ _ rfl (HOq.out.alloc _) _ _ _ [.int .i64 ((T : Int) - (f : Int))] rfl (Sl.at _ _ [.int .i64 ((T : Int) - (f : Int))] 3 1 (by simp) rfl (by omega)) (ints_oneCell .i64 [(T : Int) - (f : Int)]) (by unfold maxLen; omega) (by omega) (by simp; omega) ?_; intro v' w2 HO2 hgrow)
            have hown3 : w2.ownsRow w.heap.size 3 1 v' (m + 1) ((gs ++ [(T : Int) - (f : Int)]).map (Value.int .i64)) := by rw [List.map_append]; exact HO2.out
            obtain ⟨ao2, co2, hv2, _⟩ := Sl.own hown3
            subst hv2
            have HO3 := Lib.hid hown3
            have HW2 := Lib.hid ((HWq.out.alloc hsq (.cells #[.int .i64 ((T : Int) - (f : Int))] 3)).grown hgrow.out (by simp; omega) (fun k' hk' => (HOq.out.lt k' hk').1))
            clear hown3 HO2 hgrow HOq HWq HO HW
            go_wp2
            go_roundw
            case rel =>
              refine ⟨T + 1, T, m + 1, gs ++ [(T : Int) - (f : Int)], ao2, co2, by omega, by omega, by omega, hlt, by omega, Lib.hid (fun h => by omega), by go_num, by go_num, rfl, HO3.out, HE2.out, fun j hj _ => ?_, HW2.out⟩
              obtain rfl : j = 0 := by omega
              rfl
            case measure => simp [intOf]
          · have hd : ((T : Int) == (n : Int)) = false := by simp; omega
            have i4 : (T : Int) < (n : Int) := by omega
            have hcell := (HC.out T (by omega))
            have hcell2 : wr.cell? ⟨b1, o1 + T, none⟩ = some (.int .u8 (nth zs T)) := (HW.out.cell (p := ⟨b1, o1 + T, none⟩) hcell.1).trans hcell.2
            clear hcell
            have hsub : Ints .u8 w (some ⟨b1, o1 + f, none⟩) (T - f) (c - f) ((zs.take T).drop f) := by
              have := HX.out.sub (lo := f) (hi := T) (by omega) (by omega)
              rwa [Option.map_some, Addr.add_lit] at this
            have HQ : ∀ q, Ints .u8 (wr.drewN q) (some ⟨b1, o1 + f, none⟩) (T - f) (c - f) ((zs.take T).drop f) := fun q => hsub.below (below_drewN HW.out _)
            have hod := okAt_drop (zs := zs) (s := f) (k := T) (by omega)
            clear hsub
            cases hv : mayB (nth zs T) ((zs.take T).drop f) with
            | true =>
              rw [hv] at hod
              have HOD := Lib.hid hod
              clear hod hend
              go_wp2_with fail
              go_quiet (first | (go_at_call 9; exact (refmay_b _ _ _ _ ((zs.take T).drop f) _ _ hv (HQ _)).mono fun _ _ h => ⟨h.1, _, h.2⟩))
              have HOq := Lib.hid (own_below HO.out (below_drewN (Below.refl wr.heap.size wr) nq))
              have HWq := Lib.hid (below_drewN HW.out nq)
              go_wp2
              go_roundw
              case rel =>
                refine ⟨T + 1, f, m, gs, ao, co, by omega, by omega, by omega, hfn, hm, Lib.hid (fun h => by omega), by go_num, rfl, rfl, HOq.out, HE.out, fun j hj _ => ?_, HWq.out⟩
                by_cases e : j = T - f
                · rw [e]; exact HOD.out
                · exact HK.out j (by omega) hlt
              case measure => simp [intOf]; omega
            | false =>
              rw [hv] at hod
              have HE2 := hend (.inr hod)
              clear hod hend
              go_wp2_with fail
              go_quiet (first | (go_at_call 9; exact (refmay_b _ _ _ _ ((zs.take T).drop f) _ _ hv (HQ _)).mono fun _ _ h => ⟨h.1, _, h.2⟩))
              have HOq := Lib.hid (own_below HO.out (below_drewN (Below.refl wr.heap.size wr) nq))
              have HWq := Lib.hid (below_drewN HW.out nq)
              have hsq : w.heap.size ≤ (wr.drewN nq).heap.size := HWq.out.size
              generalize wr.drewN nq = wq at HOq HWq hsq ⊢
              go_wp2_with (at_builtin; refine append_own_any _ rfl _ _ 31 rfl w.heap.size 3 i0 (.int .i64 0) 8 Tryd.underlying31 hi hz0 hz1 hz2 rfl (.slice ao m co) _ _ rfl (HOq.out.alloc _) _ _ _ [.int .i64 ((T : Int) - (f : Int))] rfl (Sl.at _ _ [.int .i64 ((T : Int) - (f : Int))] 3 1 (by simp) rfl (by omega)) (ints_oneCell .i64 [(T : Int) - (f : Int)]) (by unfold maxLen; omega) (by omega) (by simp; omega) ?_; intro v' w2 HO2 hgrow)
              have hown3 : w2.ownsRow w.heap.size 3 1 v' (m + 1) ((gs ++ [(T : Int) - (f : Int)]).map (Value.int .i64)) := by rw [List.map_append]; exact HO2.out
              obtain ⟨ao2, co2, hv2, _⟩ := Sl.own hown3
              subst hv2
              have HO3 := Lib.hid hown3
              have HW2 := Lib.hid ((HWq.out.alloc hsq (.cells #[.int .i64 ((T : Int) - (f : Int))] 3)).grown hgrow.out (by simp; omega) (fun k' hk' => (HOq.out.lt k' hk').1))
              clear hown3 HO2 hgrow HOq HWq HO HW
              go_wp2
              go_roundw
              case rel =>
                refine ⟨T + 1, T, m + 1, gs ++ [(T : Int) - (f : Int)], ao2, co2, by omega, by omega, by omega, hlt, by omega, Lib.hid (fun h => by omega), by go_num, by go_num, rfl, HO3.out, HE2.out, fun j hj _ => ?_, HW2.out⟩
                obtain rfl : j = 0 := by omega
                rfl
              case measure => simp [intOf]; omega
      · have hTn : T = n + 1 := by omega
        have hf2 := HF.out hTn
        have e : groupsL zs = gs := by
          rw [← HE.out, List.drop_eq_nil_of_le (by rw [HL.out, hf2]; exact Nat.le_refl _), groups_nil, List.append_nil]
        have HEE := Lib.hid e
        clear hf2 e
        go_wp2
        go_ret
        rw [HEE.out]
        exact ⟨_, m, rfl, HO.out, HW.out⟩

end Go.Proofs.YtdkmmbmelmfhlaaDoor

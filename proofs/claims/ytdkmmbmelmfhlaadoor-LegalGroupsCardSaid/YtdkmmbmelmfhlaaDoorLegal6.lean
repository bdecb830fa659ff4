/- slices.Equal on numbers, legal.Groups and what the fixed results ask. -/
import Derived.Test.YtdkmmbmelmfhlaaDoorLegal5
namespace Go.Proofs.YtdkmmbmelmfhlaaDoor
open Go.RowKit

/-- slices.Equal -/
theorem equal_any (a b : Option Addr) (n c m d : Nat) (xs ys : List Int) (w : World) (hx : Ints .i64 w a n c xs) (hy : Ints .i64 w b m d ys) :
    Calls Tryd.prog 14 #[.slice a n c, .slice b m d] w fun e w' => e = .returned (.bool (eqL xs ys)) ∧ Below w.heap.size w w' := by
  have hl1 := hx.len
  have hl2 := hy.len
  have hc1 := hx.cap
  have hc2 := hy.cap
  by_cases hnm : n = m
  · subst hnm
    rcases hx.cells with ⟨rfl, rfl⟩ | ⟨b1, o1, rfl, hb1, hn, hcx⟩
    · obtain rfl : ys = [] := List.length_eq_zero_iff.1 hl2
      clear hx hy hl1 hl2
      go_enter Tryd.func14, Tryd.ntmps14
      go_wp2
      go_rounds 1
      all_goals go_ret
      all_goals exact ⟨rfl, Below.refl _ _⟩
    · rcases hy.cells with ⟨rfl, rfl⟩ | ⟨b2, o2, rfl, hb2, hn2, hcy⟩
      · omega
      · have HX := Lib.hid hcx
        have HY := Lib.hid hcy
        have L1 := Lib.hid hl1
        have L2 := Lib.hid hl2
        clear hx hy hcx hcy hl1 hl2
        go_enter Tryd.func14, Tryd.ntmps14
        go_wp2
        go_loopw [5, 13] (fun _ i wr => ∃ k : Nat, k ≤ n ∧ i = .int .i64 k ∧ (∀ j, j < k → nth xs j = nth ys j) ∧ ∃ q, wr = w.drewN q) (fun _ i _ => n - (intOf i).toNat)
        case atStart => exact ⟨0, Nat.zero_le _, rfl, fun j hj => absurd hj (by omega), 0, rfl⟩
        case round =>
          obtain ⟨k, hk, rfl, heq, q, rfl⟩ := hrel
          have HE := Lib.hid heq
          clear heq
          by_cases hlt : k < n
          · have h1 := HX.out k hlt
            have h2 := HY.out k hlt
            by_cases hv : nth xs k = nth ys k
            · have hv' : (nth xs k != nth ys k) = false := by simp [hv]
              have HV := Lib.hid hv
              clear hv
              go_wp2
              go_quiet (fail)
              go_wp2
              go_roundw
              case rel =>
                refine ⟨k + 1, by omega, by go_num, fun j hj => ?_, _, rfl⟩
                by_cases e : j = k
                · rw [e]; exact HV.out
                · exact HE.out j (by omega)
              case measure => simp [intOf]; omega
            · have hv' : (nth xs k != nth ys k) = true := by simp [hv]
              have HV := Lib.hid hv
              clear hv
              go_wp2
              go_quiet (fail)
              go_wp2
              go_ret
              have hne : xs ≠ ys := fun e => HV.out (by rw [e])
              exact ⟨ret_bool (eqL_false hne).symm, below_drewN (below_drewN (Below.refl _ _) _) _⟩
          · have hkn : k = n := by omega
            have HK := Lib.hid hkn
            clear hkn
            go_wp2
            go_ret
            have he : xs = ys := ext_nth (by rw [L1.out, L2.out]) (fun j hj => HE.out j (by rw [HK.out, ← L1.out]; exact hj))
            exact ⟨ret_bool (eqL_true he).symm, below_drewN (Below.refl _ _) _⟩
  · have hnm' : ((n : Int) != (m : Int)) = true := by simp; omega
    have hne : xs ≠ ys := fun e => hnm (by rw [← hl1, ← hl2, e])
    have HN := Lib.hid hne
    clear hx hy hl1 hl2 hne
    go_enter Tryd.func14, Tryd.ntmps14
    go_wp2
    go_ret
    exact ⟨ret_bool (eqL_false HN.out).symm, Below.refl _ _⟩

/-- the length of the first legal group -/
def stepN (zs : List Int) : Nat := if firstI zs < 0 then zs.length else (firstI zs).toNat
def grp : Nat → List Int → List Int
  | 0, _ => []
  | f + 1, zs => if zs.isEmpty = true then [] else (stepN zs : Int) :: grp f (zs.drop (stepN zs))
def groupsL (zs : List Int) : List Int := grp zs.length zs
theorem first_pos {zs : List Int} (_h : 0 < zs.length) : firstI zs = -1 ∨ 1 ≤ firstI zs ∧ firstI zs < zs.length := by
  rcases first_cases zs with ⟨h1, _⟩ | ⟨k, hk, h1, h2, _⟩
  · exact .inl h1
  · refine .inr ⟨?_, by omega⟩
    by_cases h0 : k = 0
    · subst h0
      have : okAt zs 0 = true := rfl
      rw [this] at h2; cases h2
    · omega
theorem step_bd {zs : List Int} (h : 0 < zs.length) : 1 ≤ stepN zs ∧ stepN zs ≤ zs.length := by
  unfold stepN
  rcases first_pos h with h1 | ⟨h1, h2⟩ <;> split <;> omega
theorem grp_fuel : ∀ (f g : Nat) (zs : List Int), zs.length ≤ f → zs.length ≤ g → grp f zs = grp g zs := by
  intro f
  induction f with
  | zero =>
    intro g zs h1 _
    obtain rfl : zs = [] := List.length_eq_zero_iff.1 (by omega)
    cases g <;> rfl
  | succ f ih =>
    intro g zs h1 h2
    cases g with
    | zero =>
      obtain rfl : zs = [] := List.length_eq_zero_iff.1 (by omega)
      rfl
    | succ g =>
      unfold grp
      by_cases h0 : zs = []
      · subst h0; rfl
      · have hl : 0 < zs.length := List.length_pos_iff.2 h0
        have hb := step_bd hl
        rw [ih g _ (by simp; omega) (by simp; omega)]
theorem groups_nil : groupsL [] = [] := rfl
theorem groups_step {zs : List Int} (h : 0 < zs.length) : groupsL zs = (stepN zs : Int) :: groupsL (zs.drop (stepN zs)) := by
  have hb := step_bd h
  obtain ⟨m, hm⟩ : ∃ m, zs.length = m + 1 := ⟨zs.length - 1, by omega⟩
  have e : groupsL zs = grp (m + 1) zs := by unfold groupsL; rw [hm]
  have he : zs.isEmpty = false := by cases zs with
    | nil => simp at h
    | cons => rfl
  rw [e]
  show (if zs.isEmpty = true then [] else (stepN zs : Int) :: grp m (zs.drop (stepN zs))) = _
  rw [he]
  show (stepN zs : Int) :: grp m (zs.drop (stepN zs)) = _
  rw [grp_fuel m (zs.drop (stepN zs)).length (zs.drop (stepN zs)) (by simp; omega) (Nat.le_refl _)]
  rfl

theorem info3 : (Tryd.prog.info? 3).map (fun i => (i.zero, i.size, i.bytes)) = some (some (.int .i64 0), 1, 8) := by kernel_rfl

/-- the rest of a slice, whatever its form -/
def restA (a : Option Addr) (c k : Nat) : Option Addr := if c = k then a else a.map (fun x => x.add k)

set_option maxHeartbeats 4000000 in
/-- legal.Groups -/
theorem groups_any (a : Option Addr) (n c : Nat) (zs : List Int) (w : World) (hA : AloneOk w) (hx : Ints .u8 w a n c zs) (hn : n ≤ 100) :
    Calls Tryd.prog 13 #[.slice a n c] w fun e w' => ∃ v m, e = .returned v ∧ w'.ownsRow w.heap.size 3 1 v m ((groupsL zs).map (Value.int .i64)) ∧ Below w.heap.size w w' := by
  obtain ⟨i0, hi, hz0, hz1, hz2⟩ := info_parts info3
  have HX := Lib.hid hx
  have HA := Lib.hid hA
  clear hx hA
  go_enter Tryd.func13, Tryd.ntmps13
  go_wp2
  go_loopw [0, 3, 4] (fun l o _ wr => ∃ (al : Option Addr) (k cl m : Nat) (ls gs : List Int), l = .slice al k cl ∧ k ≤ n ∧ m + k ≤ n ∧ Ints .u8 w al k cl ls ∧ wr.ownsRow w.heap.size 3 1 o m (gs.map (Value.int .i64)) ∧ gs ++ groupsL ls = groupsL zs ∧ Below w.heap.size w wr)
    (fun l _ _ _ => match l with | .slice _ m _ => m | _ => 0)
  case atStart => exact ⟨a, n, c, 0, zs, [], rfl, Nat.le_refl _, by omega, HX.out, World.ownsRow_nil _ _ _ _, rfl, Below.refl _ _⟩
  case round =>
    obtain ⟨al, k, cl, m, ls, gs, rfl, hk, hm, hls, hown, heq, hbw⟩ := hrel
    have HL := Lib.hid hls
    have HE := Lib.hid heq
    have HO := Lib.hid hown
    have HW := Lib.hid hbw
    have hll := Lib.hid hls.len
    have hcl := hls.cap
    have hsw : w.heap.size ≤ wr.heap.size := hbw.size
    obtain ⟨ao, co, hvo, _⟩ := Sl.own hown
    clear hls heq hown hbw
    subst hvo
    by_cases h0 : k = 0
    · subst h0
      obtain rfl : ls = [] := List.length_eq_zero_iff.1 hll.out
      go_wp2
      go_ret
      have e : groupsL zs = gs := by rw [← HE.out, groups_nil, List.append_nil]
      rw [e]
      exact ⟨_, m, rfl, HO.out, HW.out⟩
    · have hk0 : 0 < k := by omega
      have hst := groups_step (zs := ls) (by rw [hll.out]; exact hk0)
      have hsb := step_bd (zs := ls) (by rw [hll.out]; exact hk0)
      rw [hll.out] at hsb
      have hfp := first_pos (zs := ls) (by rw [hll.out]; exact hk0)
      rw [hll.out] at hfp
      obtain ⟨s, hs⟩ : ∃ s, s = stepN ls := ⟨_, rfl⟩
      have hs' : (firstI ls = -1 ∧ s = k) ∨ (0 ≤ firstI ls ∧ firstI ls = s) := by
        rw [hs]; unfold stepN; rw [hll.out]
        rcases hfp with h | ⟨h1, h2⟩
        · exact .inl ⟨h, by rw [if_pos (by omega)]⟩
        · exact .inr ⟨by omega, by rw [if_neg (by omega)]; omega⟩
      rw [← hs] at hst hsb
      have hsub : Ints .u8 w (restA al cl s) (k - s) (cl - s) (ls.drop s) := by
        have hh : (ls.take k).drop s = ls.drop s := by rw [List.take_of_length_le (by rw [hll.out]; omega)]
        unfold restA
        split
        · rename_i he
          have := HL.out.sub_end (lo := s) (hi := k) (by omega) (by omega) he
          rw [hh] at this
          rwa [show cl - s = 0 by omega]
        · have := HL.out.sub (lo := s) (hi := k) (by omega) (by omega)
          rwa [hh] at this
      have HS := Lib.hid hsub
      have hE2 : (gs ++ [(s : Int)]) ++ groupsL (ls.drop s) = groupsL zs := by rw [← HE.out, hst]; simp
      have HE2 := Lib.hid hE2
      clear hst hs hsub hE2 hfp
      go_wp2_with fail
      refine (first_any _ _ _ ls _ (HA.out.below HW.out) (HL.out.below HW.out)).mono ?_
      rintro e w1 ⟨rfl, hb1⟩
      have HO1 := Lib.hid (own_below HO.out hb1)
      have HW1 := Lib.hid (HW.out.trans (hb1.mono hsw))
      have hs1 : w.heap.size ≤ w1.heap.size := HW1.out.size
      clear hb1 HO HW
      unfold restA at HS
      rcases hs' with ⟨hf, rfl⟩ | ⟨hf0, hf⟩
      all_goals
        rw [hf]
        clear hf
        by_cases hce : cl = s
        all_goals
          simp only [hce, if_true, if_false] at HS
          go_wp2_with (at_builtin; refine append_own_any _ rfl _ _ 31 rfl w.heap.size 3 i0 (.int .i64 0) 8 Tryd.underlying31 hi hz0 hz1 hz2 rfl (.slice ao m co) _ _ rfl (HO1.out.alloc _) _ _ _ [.int .i64 (s : Int)] rfl (Sl.at _ _ [.int .i64 (s : Int)] 3 1 (by simp) rfl (by omega)) (ints_oneCell .i64 [(s : Int)]) (by unfold maxLen; omega) (by omega) (by simp; omega) ?_; intro v' w2 HO2 hgrow)
          have HO3 : Hid (w2.ownsRow w.heap.size 3 1 v' (m + 1) ((gs ++ [(s : Int)]).map (Value.int .i64))) := by
            have := HO2.out
            rw [List.map_append]; exact this
          have HW2 := Lib.hid ((HW1.out.alloc hs1 (.cells #[.int .i64 (s : Int)] 3)).grown hgrow.out (by simp; omega) (fun k' hk' => (HO1.out.lt k' hk').1))
          clear HO2 hgrow HO1 HW1
          go_wp2
          go_roundw
          case rel =>
            refine ⟨_, _, _, m + 1, ls.drop s, gs ++ [(s : Int)], rfl, by omega, by omega, ?_, HO3.out, HE2.out, HW2.out⟩
            first | exact HS.out | simpa using HS.out
          case measure => simp; omega

end Go.Proofs.YtdkmmbmelmfhlaaDoor

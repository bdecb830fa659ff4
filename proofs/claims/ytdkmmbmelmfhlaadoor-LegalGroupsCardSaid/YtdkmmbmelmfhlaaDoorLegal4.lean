/- legal.First, its reference, and legal.Legal. -/
import Derived.Test.YtdkmmbmelmfhlaaDoorLegal2
import Derived.WalkMore
namespace Go.Proofs.YtdkmmbmelmfhlaaDoor
open Go.RowKit

theorem Sl.pre {w : World} {a : Option Addr} {n c : Nat} {xs : List Value} (h : Sl w a n c xs) {m : Nat} (hm : m ≤ n) : Sl w a m c (xs.take m) := by
  obtain ⟨l1, l2, l3, l4, l5⟩ := h
  refine ⟨by simp; omega, by omega, l3, l4, fun hm0 => ?_⟩
  obtain ⟨b, off, ha, hlt, hc⟩ := l5 (by omega)
  refine ⟨b, off, ha, hlt, fun j v hv => hc j v ?_⟩
  rw [List.getElem?_take] at hv
  split at hv
  · exact hv
  · cases hv
theorem Ints.pre {k : IntKind} {w : World} {a : Option Addr} {n c : Nat} {zs : List Int} (h : Ints k w a n c zs) {m : Nat} (hm : m ≤ n) : Ints k w a m c (zs.take m) := by
  unfold Ints; rw [List.map_take]; exact Sl.pre h hm

/-- whether the j-th type may follow those ahead of it -/
def okAt (zs : List Int) (j : Nat) : Bool := mayB (nth zs j) (zs.take j)
def okL (zs : List Int) : List Int := (List.range zs.length).map fun j => if okAt zs j = true then 0 else 1
/-- the place of the first that may not follow; -1 if there is none -/
def firstI (zs : List Int) : Int := idxB (fun x => x == 1) (okL zs)
def legalB (zs : List Int) : Bool := decide ((zs.length : Int) > 0) && decide (firstI zs < 0)
theorem okL_len (zs : List Int) : (okL zs).length = zs.length := by simp [okL]
theorem okL_nth {zs : List Int} {j : Nat} (h : j < zs.length) : nth (okL zs) j = if okAt zs j = true then 0 else 1 := by
  rw [nth_lt (by rw [okL_len]; exact h)]
  simp [okL]
theorem first_none {zs : List Int} (h : ∀ j, j < zs.length → okAt zs j = true) : firstI zs = -1 :=
  idxB_none fun j hj => by rw [okL_len] at hj; rw [okL_nth hj, h j hj]; rfl
theorem first_some {zs : List Int} {k : Nat} (hk : k < zs.length) (h : okAt zs k = false) (hz : ∀ j, j < k → okAt zs j = true) : firstI zs = k :=
  idxB_some (by rw [okL_len]; exact hk) (by rw [okL_nth hk, h]; rfl) fun j hj => by rw [okL_nth (by omega), hz j hj]; rfl
theorem first_cases (zs : List Int) : (firstI zs = -1 ∧ ∀ j, j < zs.length → okAt zs j = true) ∨ ∃ k : Nat, k < zs.length ∧ firstI zs = k ∧ okAt zs k = false ∧ ∀ j, j < k → okAt zs j = true := by
  by_cases h : ∀ j, j < zs.length → okAt zs j = true
  · exact .inl ⟨first_none h, h⟩
  · have hd : ∃ k, k < zs.length ∧ okAt zs k = false := by
      refine Classical.byContradiction fun hn => h fun j hj => ?_
      cases e : okAt zs j with
      | true => rfl
      | false => exact absurd ⟨j, hj, e⟩ hn
    have key : ∀ m : Nat, (∀ j, j < m → j < zs.length → okAt zs j = true) ∨ ∃ k, k < zs.length ∧ okAt zs k = false ∧ ∀ j, j < k → okAt zs j = true := by
      intro m
      induction m with
      | zero => exact .inl fun j hj => absurd hj (by omega)
      | succ m ih =>
        rcases ih with ih | ih
        · by_cases hm : m < zs.length
          · cases e : okAt zs m with
            | true =>
              refine .inl fun j hj hl => ?_
              by_cases e2 : j = m
              · rw [e2]; exact e
              · exact ih j (by omega) hl
            | false => exact .inr ⟨m, hm, e, fun j hj => ih j hj (by omega)⟩
          · exact .inl fun j hj hl => ih j (by omega) hl
        · exact .inr ih
    rcases key zs.length with hk | ⟨k, hk, h1, h2⟩
    · exact absurd (fun j hj => hk j hj hj) h
    · exact .inr ⟨k, hk, first_some hk h1 h2, h1, h2⟩
theorem first_bd (zs : List Int) : -1 ≤ firstI zs ∧ firstI zs < zs.length ∨ firstI zs = -1 := by
  rcases first_cases zs with ⟨h, _⟩ | ⟨k, hk, h, _⟩
  · exact .inr h
  · exact .inl ⟨by omega, by omega⟩

set_option maxHeartbeats 4000000 in
theorem first_any (a : Option Addr) (n c : Nat) (zs : List Int) (w : World) (hA : AloneOk w) (hx : Ints .u8 w a n c zs) :
    Calls Tryd.prog 10 #[.slice a n c] w fun e w' => e = .returned (.int .i64 (firstI zs)) ∧ Below w.heap.size w w' := by
  have hl1 := Lib.hid hx.len
  have hc1 := hx.cap
  have HX := Lib.hid hx
  have HA := Lib.hid hA
  obtain ⟨b1, o1, ha, hcx⟩ := hx.loc
  have HC := Lib.hid hcx
  clear hx hA hcx
  rcases ha with rfl | hn0
  all_goals
    go_enter Tryd.func10, Tryd.ntmps10
    go_wp2
    go_step3
    go_wp2
    go_step3
    go_wp2
    go_loopw [3, 4, 5, 8] (fun o _ _ i wr => ∃ k : Nat, k ≤ n ∧ i = .int .i64 k ∧ o = .int .i64 (-1) ∧ (∀ j, j < k → okAt zs j = true) ∧ Below w.heap.size w wr) (fun _ _ _ i _ => n - (intOf i).toNat)
    case atStart => exact ⟨0, Nat.zero_le _, rfl, rfl, fun j hj => absurd hj (by omega), Below.refl _ _⟩
    case round =>
      obtain ⟨k, hk, rfl, rfl, heq, hbw⟩ := hrel
      have HE := Lib.hid heq
      have HW := Lib.hid hbw
      have hsw : w.heap.size ≤ wr.heap.size := hbw.size
      clear heq hbw
      by_cases hlt : k < n
      · try (exfalso; omega)
        all_goals
          have hcell : wr.cell? ⟨b1, o1 + k, none⟩ = some (.int .u8 (nth zs k)) := (HW.out.cell (p := ⟨b1, o1 + k, none⟩) (HC.out k hlt).1).trans (HC.out k hlt).2
          go_wp2_with fail
          refine (may_any _ _ _ _ (zs.take k) _ (HA.out.below HW.out) ((HX.out.pre hk).below HW.out)).mono ?_
          rintro e w1 ⟨rfl, hb1⟩
          have HW1 := Lib.hid (HW.out.trans (hb1.mono hsw))
          clear hb1
          cases hv : mayB (nth zs k) (zs.take k) with
          | true =>
            have HV : Hid (okAt zs k = true) := hv
            clear hv
            go_wp2
            go_roundw
            case rel =>
              refine ⟨k + 1, by omega, by go_num, rfl, fun j hj => ?_, HW1.out⟩
              by_cases e : j = k
              · rw [e]; exact HV.out
              · exact HE.out j (by omega)
            case measure => simp [intOf]; omega
          | false =>
            have HV : Hid (okAt zs k = false) := hv
            clear hv
            go_wp2
            rw [Exit.noGoto_ret]
            go_ret
            exact ⟨ret_int (first_some (by rw [hl1.out]; exact hlt) HV.out HE.out).symm, HW1.out⟩
      · have hkn : Hid (k = n) := by have : k = n := by omega
                                     exact this
        go_wp2
        rw [Exit.noGoto_ret]
        go_ret
        exact ⟨ret_int (first_none (fun j hj => HE.out j (by rw [hkn.out, ← hl1.out]; exact hj))).symm, HW.out⟩

theorem legal_any (a : Option Addr) (n c : Nat) (zs : List Int) (w : World) (hA : AloneOk w) (hx : Ints .u8 w a n c zs) :
    Calls Tryd.prog 12 #[.slice a n c] w fun e w' => e = .returned (.bool (legalB zs)) ∧ Below w.heap.size w w' := by
  have hc1 := hx.cap
  have hl := hx.len
  have HX := Lib.hid hx
  have HA := Lib.hid hA
  unfold legalB
  rw [hl]
  clear hx hA hl
  by_cases h0 : n = 0
  · subst h0
    go_enter Tryd.func12, Tryd.ntmps12
    go_wp2
    go_ret
    exact ⟨rfl, Below.refl _ _⟩
  · have hn : (n : Int) > 0 := by omega
    have hd : decide ((n : Int) > 0) = true := by simp; omega
    go_enter Tryd.func12, Tryd.ntmps12
    go_wp2_with fail
    refine (first_any _ _ _ zs _ HA.out HX.out).mono ?_
    rintro e w1 ⟨rfl, hb1⟩
    have HB1 := Lib.hid hb1
    clear hb1
    go_wp2
    go_ret
    rw [hd, Bool.true_and]
    exact ⟨rfl, HB1.out⟩

end Go.Proofs.YtdkmmbmelmfhlaaDoor

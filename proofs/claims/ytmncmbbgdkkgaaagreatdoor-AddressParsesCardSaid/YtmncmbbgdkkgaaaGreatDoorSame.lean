/- The contract of the reference's Same. -/
import Derived.Test.YtmncmbbgdkkgaaaGreatDoorBase
namespace Go.Proofs.YtmncmbbgdkkgaaaGreatDoor
open Go.RowKit

/-- ref.Same: whether two slices read the same -/
theorem same_any (a b : Option Addr) (n c m d : Nat) (xs ys : List Int) (w : World) (hx : Ints .u8 w a n c xs) (hy : Ints .u8 w b m d ys) :
    Calls Tryz.prog 14 #[.slice a n c, .slice b m d] w fun e w' => e = .returned (.bool (eqL xs ys)) ∧ Below w.heap.size w w' := by
  have hl1 := hx.len
  have hl2 := hy.len
  have hc1 := hx.cap
  have hc2 := hy.cap
  by_cases hnm : n = m
  · subst hnm
    rcases hx.cells with ⟨rfl, rfl⟩ | ⟨b1, o1, rfl, hb1, hn, hcx⟩
    · obtain rfl : ys = [] := List.length_eq_zero_iff.1 hl2
      clear hx hy hl1 hl2
      go_enter Tryz.func14, Tryz.ntmps14
      go_wp2
      go_rounds 1
      all_goals go_ret
      all_goals exact ⟨rfl, Below.refl _ _⟩
    · rcases hy.cells with ⟨rfl, rfl⟩ | ⟨b2, o2, rfl, hb2, hn2, hcy⟩
      · omega
      · have HX := Lib.hid hcx
        have HY := Lib.hid hcy
        have L1 := Lib.hid hl1
        have L2 := Lib.hid hl2
        clear hx hy hcx hcy hl1 hl2
        go_enter Tryz.func14, Tryz.ntmps14
        go_wp2
        go_loopw [5] (fun i wr => ∃ k : Nat, k ≤ n ∧ i = .int .i64 k ∧ (∀ j, j < k → nth xs j = nth ys j) ∧ ∃ q, wr = w.drewN q) (fun i _ => n - (intOf i).toNat)
        case atStart => exact ⟨0, Nat.zero_le _, rfl, fun j hj => absurd hj (by omega), 0, rfl⟩
        case round =>
          obtain ⟨k, hk, rfl, heq, q, rfl⟩ := hrel
          have HE := Lib.hid heq
          clear heq
          by_cases hlt : k < n
          · have h1 := HX.out k hlt
            have h2 := HY.out k hlt
            by_cases hv : nth xs k = nth ys k
            · have hv' : (nth xs k != nth ys k) = false := by simp [hv]
              have HV := Lib.hid hv
              clear hv
              go_wp2
              go_quiet (fail)
              go_wp2
              go_roundw
              case rel =>
                refine ⟨k + 1, by omega, by go_num, fun j hj => ?_, _, rfl⟩
                by_cases e : j = k
                · rw [e]; exact HV.out
                · exact HE.out j (by omega)
              case measure => simp [intOf]; omega
            · have hv' : (nth xs k != nth ys k) = true := by simp [hv]
              have HV := Lib.hid hv
              clear hv
              go_wp2
              go_quiet (fail)
              go_wp2
              go_ret
              have hne : xs ≠ ys := fun e => HV.out (by rw [e])
              exact ⟨ret_bool (eqL_false hne).symm, below_drewN (below_drewN (Below.refl _ _) _) _⟩
          · have hkn : k = n := by omega
            have HK := Lib.hid hkn
            clear hkn
            go_wp2
            go_ret
            have he : xs = ys := ext_nth (by rw [L1.out, L2.out]) (fun j hj => HE.out j (by rw [HK.out, ← L1.out]; exact hj))
            exact ⟨ret_bool (eqL_true he).symm, below_drewN (Below.refl _ _) _⟩
  · have hnm' : ((n : Int) != (m : Int)) = true := by simp; omega
    have hne : xs ≠ ys := fun e => hnm (by rw [← hl1, ← hl2, e])
    have HN := Lib.hid hne
    clear hx hy hl1 hl2 hne
    go_enter Tryz.func14, Tryz.ntmps14
    go_wp2
    go_ret
    exact ⟨ret_bool (eqL_false HN.out).symm, Below.refl _ _⟩

end Go.Proofs.YtmncmbbgdkkgaaaGreatDoor

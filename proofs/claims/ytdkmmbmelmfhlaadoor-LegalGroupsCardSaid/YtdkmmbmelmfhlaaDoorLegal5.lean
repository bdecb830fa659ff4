/- The reference's First. -/
import Derived.Test.YtdkmmbmelmfhlaaDoorLegal3
import Derived.Test.YtdkmmbmelmfhlaaDoorLegal4
namespace Go.Proofs.YtdkmmbmelmfhlaaDoor
open Go.RowKit

theorem refmay_b (t : Int) (a : Option Addr) (n c : Nat) (zs : List Int) (w : World) (b : Bool) (hb : mayB t zs = b) (hx : Ints .u8 w a n c zs) :
    Calls Tryd.prog 9 #[.int .u8 t, .slice a n c] w fun e w' => e = .returned (.bool b) ∧ w' = w := by
  subst hb
  exact (refmay_any t a n c zs w hx).mono fun _ _ ⟨h1, h2⟩ => ⟨h1, h2.symm⟩

set_option maxHeartbeats 4000000 in
theorem reffirst_any (a : Option Addr) (n c : Nat) (zs : List Int) (w : World) (hx : Ints .u8 w a n c zs) :
    Calls Tryd.prog 11 #[.slice a n c] w fun e w' => e = .returned (.int .i64 (firstI zs)) ∧ Below w.heap.size w w' := by
  have hl1 := Lib.hid hx.len
  have hc1 := hx.cap
  have HX := Lib.hid hx
  obtain ⟨b1, o1, ha, hcx⟩ := hx.loc
  have HC := Lib.hid hcx
  clear hx hcx
  rcases ha with rfl | hn0
  all_goals
    go_enter Tryd.func11, Tryd.ntmps11
    go_wp2
    go_loopw [3] (fun i wr => ∃ k : Nat, k ≤ n ∧ i = .int .i64 k ∧ (∀ j, j < k → okAt zs j = true) ∧ ∃ q, wr = w.drewN q) (fun i _ => n - (intOf i).toNat)
    case atStart => exact ⟨0, Nat.zero_le _, rfl, fun j hj => absurd hj (by omega), 0, rfl⟩
    case round =>
      obtain ⟨k, hk, rfl, heq, q, rfl⟩ := hrel
      have HE := Lib.hid heq
      clear heq
      by_cases hlt : k < n
      · try (exfalso; omega)
        all_goals
          have hcell := (HC.out k hlt).2
          have i1 : (0 : Int) ≤ (k : Int) := by omega
          have i2 : (k : Int) < (n : Int) := by omega
          have i3 : (k : Int) ≤ (c : Int) := by omega
          have HQ : ∀ m, Ints .u8 (w.drewN (q + m)) (some ⟨b1, o1, none⟩) k c (zs.take k) := fun m => (HX.out.pre hk).below (below_drewN (Below.refl _ _) _)
          cases hv : mayB (nth zs k) (zs.take k) with
          | true =>
            have HV : Hid (okAt zs k = true) := hv
            go_wp2
            go_quiet (first | (go_at_call 9; exact (refmay_b _ _ _ _ (zs.take k) _ _ hv (HQ _)).mono fun _ _ h => ⟨h.1, _, h.2⟩))
            go_wp2
            go_roundw
            case rel =>
              refine ⟨k + 1, by omega, by go_num, fun j hj => ?_, _, rfl⟩
              by_cases e : j = k
              · rw [e]; exact HV.out
              · exact HE.out j (by omega)
            case measure => simp [intOf]; omega
          | false =>
            have HV : Hid (okAt zs k = false) := hv
            go_wp2
            go_quiet (first | (go_at_call 9; exact (refmay_b _ _ _ _ (zs.take k) _ _ hv (HQ _)).mono fun _ _ h => ⟨h.1, _, h.2⟩))
            go_wp2
            go_ret
            exact ⟨ret_int (first_some (by rw [hl1.out]; exact hlt) HV.out HE.out).symm, below_drewN (below_drewN (Below.refl _ _) _) _⟩
      · have hkn : Hid (k = n) := by have : k = n := by omega
                                     exact this
        go_wp2
        go_ret
        exact ⟨ret_int (first_none (fun j hj => HE.out j (by rw [hkn.out, ← hl1.out]; exact hj))).symm, below_drewN (Below.refl _ _) _⟩

end Go.Proofs.YtdkmmbmelmfhlaaDoor

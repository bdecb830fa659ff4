/- The reference's May. -/
import Derived.Test.YtdkmmbmelmfhlaaDoorLegal2
namespace Go.Proofs.YtdkmmbmelmfhlaaDoor
open Go.RowKit

/-- the reference's form of it -/
theorem may_ref {t : Int} {zs : List Int} (h : 0 < zs.length) : mayB t zs =
    (!(t == 1 || t == 2 || t == 14 || anyB (isv 1) zs || anyB (isv 2) zs || anyB (isv 14) zs) && (!(t == 15 || anyB (isv 6) zs) && (!(t == 10 && (decide ((zs.length : Int) > 1) || nth zs 0 != 15)) &&
      !((anyB (isv 0) zs && t != 0) || (anyB (isv 64) zs && t != 64))))) := by
  rw [may_full h, any_single, any_oth]
  have e : (zs.length == 1 && nth zs 0 == 15) = !(decide ((zs.length : Int) > 1) || nth zs 0 != 15) := by
    rw [Bool.eq_iff_iff]; simp; omega
  rw [e]
  unfold single bne
  cases (t == 1) <;> cases (t == 2) <;> cases (t == 14) <;> cases anyB (isv 1) zs <;> cases anyB (isv 2) zs <;> cases anyB (isv 14) zs <;> simp
  cases (t == 15) <;> cases anyB (isv 6) zs <;> simp
  cases (t == 10) <;> simp [Bool.and_comm]

set_option maxHeartbeats 16000000 in
theorem refmay_any (t : Int) (a : Option Addr) (n c : Nat) (zs : List Int) (w : World) (hx : Ints .u8 w a n c zs) :
    Calls Tryd.prog 9 #[.int .u8 t, .slice a n c] w fun e w' => e = .returned (.bool (mayB t zs)) ∧ w = w' := by
  have hc1 := hx.cap
  rcases hx.cells with ⟨rfl, rfl⟩ | ⟨b1, o1, rfl, hb1, hn, hcx⟩
  · rw [may_nil]
    clear hx
    go_enter Tryd.func9, Tryd.ntmps9
    go_wp2
    all_goals go_ret
    exact ⟨rfl, rfl⟩
  · rw [may_ref (by rw [hx.len]; exact hn), hx.len]
    have hc0 : w.cell? ⟨b1, o1, none⟩ = some (.int .u8 (nth zs 0)) := hcx 0 hn
    have HX := Lib.hid hx
    clear hx hcx
    cases e1 : (t == 1) with
    | true =>
      go_enter Tryd.func9, Tryd.ntmps9
      go_wp2_with (go_at_call 21; refine (has_any' _ _ _ _ zs _ HX.out).mono ?_; rintro e w' ⟨rfl, rfl⟩; first | rw [a1] | rw [a2] | rw [a14] | rw [a6] | rw [a0] | rw [a64])
      all_goals go_ret
      all_goals exact ⟨by simp, rfl⟩
    | false =>
      cases e2 : (t == 2) with
      | true =>
        go_enter Tryd.func9, Tryd.ntmps9
        go_wp2_with (go_at_call 21; refine (has_any' _ _ _ _ zs _ HX.out).mono ?_; rintro e w' ⟨rfl, rfl⟩; first | rw [a1] | rw [a2] | rw [a14] | rw [a6] | rw [a0] | rw [a64])
        all_goals go_ret
        all_goals exact ⟨by simp, rfl⟩
      | false =>
        cases e14 : (t == 14) with
        | true =>
          go_enter Tryd.func9, Tryd.ntmps9
          go_wp2_with (go_at_call 21; refine (has_any' _ _ _ _ zs _ HX.out).mono ?_; rintro e w' ⟨rfl, rfl⟩; first | rw [a1] | rw [a2] | rw [a14] | rw [a6] | rw [a0] | rw [a64])
          all_goals go_ret
          all_goals exact ⟨by simp, rfl⟩
        | false =>
          cases a1 : anyB (isv 1) zs with
          | true =>
            go_enter Tryd.func9, Tryd.ntmps9
            go_wp2_with (go_at_call 21; refine (has_any' _ _ _ _ zs _ HX.out).mono ?_; rintro e w' ⟨rfl, rfl⟩; first | rw [a1] | rw [a2] | rw [a14] | rw [a6] | rw [a0] | rw [a64])
            all_goals go_ret
            all_goals exact ⟨by simp, rfl⟩
          | false =>
            cases a2 : anyB (isv 2) zs with
            | true =>
              go_enter Tryd.func9, Tryd.ntmps9
              go_wp2_with (go_at_call 21; refine (has_any' _ _ _ _ zs _ HX.out).mono ?_; rintro e w' ⟨rfl, rfl⟩; first | rw [a1] | rw [a2] | rw [a14] | rw [a6] | rw [a0] | rw [a64])
              all_goals go_ret
              all_goals exact ⟨by simp, rfl⟩
            | false =>
              cases a14 : anyB (isv 14) zs with
              | true =>
                go_enter Tryd.func9, Tryd.ntmps9
                go_wp2_with (go_at_call 21; refine (has_any' _ _ _ _ zs _ HX.out).mono ?_; rintro e w' ⟨rfl, rfl⟩; first | rw [a1] | rw [a2] | rw [a14] | rw [a6] | rw [a0] | rw [a64])
                all_goals go_ret
                all_goals exact ⟨by simp, rfl⟩
              | false =>
                cases e15 : (t == 15) with
                | true =>
                  go_enter Tryd.func9, Tryd.ntmps9
                  go_wp2_with (go_at_call 21; refine (has_any' _ _ _ _ zs _ HX.out).mono ?_; rintro e w' ⟨rfl, rfl⟩; first | rw [a1] | rw [a2] | rw [a14] | rw [a6] | rw [a0] | rw [a64])
                  all_goals go_ret
                  all_goals exact ⟨by simp, rfl⟩
                | false =>
                  cases a6 : anyB (isv 6) zs with
                  | true =>
                    go_enter Tryd.func9, Tryd.ntmps9
                    go_wp2_with (go_at_call 21; refine (has_any' _ _ _ _ zs _ HX.out).mono ?_; rintro e w' ⟨rfl, rfl⟩; first | rw [a1] | rw [a2] | rw [a14] | rw [a6] | rw [a0] | rw [a64])
                    all_goals go_ret
                    all_goals exact ⟨by simp, rfl⟩
                  | false =>
                    cases e10 : (t == 10) with
                    | true =>
                      cases gn : decide ((n : Int) > 1) with
                      | true =>
                        go_enter Tryd.func9, Tryd.ntmps9
                        go_wp2_with (go_at_call 21; refine (has_any' _ _ _ _ zs _ HX.out).mono ?_; rintro e w' ⟨rfl, rfl⟩; first | rw [a1] | rw [a2] | rw [a14] | rw [a6] | rw [a0] | rw [a64])
                        all_goals go_ret
                        all_goals exact ⟨by simp, rfl⟩
                      | false =>
                        cases ne : (nth zs 0 != 15) with
                        | true =>
                          go_enter Tryd.func9, Tryd.ntmps9
                          go_wp2_with (go_at_call 21; refine (has_any' _ _ _ _ zs _ HX.out).mono ?_; rintro e w' ⟨rfl, rfl⟩; first | rw [a1] | rw [a2] | rw [a14] | rw [a6] | rw [a0] | rw [a64])
                          all_goals go_ret
                          all_goals exact ⟨by simp, rfl⟩
                        | false =>
                          cases a0 : anyB (isv 0) zs with
                          | true =>
                            cases n0 : (t != 0) with
                            | true =>
                              go_enter Tryd.func9, Tryd.ntmps9
                              go_wp2_with (go_at_call 21; refine (has_any' _ _ _ _ zs _ HX.out).mono ?_; rintro e w' ⟨rfl, rfl⟩; first | rw [a1] | rw [a2] | rw [a14] | rw [a6] | rw [a0] | rw [a64])
                              all_goals go_ret
                              all_goals exact ⟨by simp, rfl⟩
                            | false =>
                              cases a64 : anyB (isv 64) zs with
                              | true =>
                                cases n64 : (t != 64) with
                                | true =>
                                  go_enter Tryd.func9, Tryd.ntmps9
                                  go_wp2_with (go_at_call 21; refine (has_any' _ _ _ _ zs _ HX.out).mono ?_; rintro e w' ⟨rfl, rfl⟩; first | rw [a1] | rw [a2] | rw [a14] | rw [a6] | rw [a0] | rw [a64])
                                  all_goals go_ret
                                  all_goals exact ⟨by simp, rfl⟩
                                | false =>
                                  go_enter Tryd.func9, Tryd.ntmps9
                                  go_wp2_with (go_at_call 21; refine (has_any' _ _ _ _ zs _ HX.out).mono ?_; rintro e w' ⟨rfl, rfl⟩; first | rw [a1] | rw [a2] | rw [a14] | rw [a6] | rw [a0] | rw [a64])
                                  all_goals go_ret
                                  all_goals exact ⟨by simp, rfl⟩
                              | false =>
                                go_enter Tryd.func9, Tryd.ntmps9
                                go_wp2_with (go_at_call 21; refine (has_any' _ _ _ _ zs _ HX.out).mono ?_; rintro e w' ⟨rfl, rfl⟩; first | rw [a1] | rw [a2] | rw [a14] | rw [a6] | rw [a0] | rw [a64])
                                all_goals go_ret
                                all_goals exact ⟨by simp, rfl⟩
                          | false =>
                            cases a64 : anyB (isv 64) zs with
                            | true =>
                              cases n64 : (t != 64) with
                              | true =>
                                go_enter Tryd.func9, Tryd.ntmps9
                                go_wp2_with (go_at_call 21; refine (has_any' _ _ _ _ zs _ HX.out).mono ?_; rintro e w' ⟨rfl, rfl⟩; first | rw [a1] | rw [a2] | rw [a14] | rw [a6] | rw [a0] | rw [a64])
                                all_goals go_ret
                                all_goals exact ⟨by simp, rfl⟩
                              | false =>
                                go_enter Tryd.func9, Tryd.ntmps9
                                go_wp2_with (go_at_call 21; refine (has_any' _ _ _ _ zs _ HX.out).mono ?_; rintro e w' ⟨rfl, rfl⟩; first | rw [a1] | rw [a2] | rw [a14] | rw [a6] | rw [a0] | rw [a64])
                                all_goals go_ret
                                all_goals exact ⟨by simp, rfl⟩
                            | false =>
                              go_enter Tryd.func9, Tryd.ntmps9
                              go_wp2_with (go_at_call 21; refine (has_any' _ _ _ _ zs _ HX.out).mono ?_; rintro e w' ⟨rfl, rfl⟩; first | rw [a1] | rw [a2] | rw [a14] | rw [a6] | rw [a0] | rw [a64])
                              all_goals go_ret
                              all_goals exact ⟨by simp, rfl⟩
                    | false =>
                      cases a0 : anyB (isv 0) zs with
                      | true =>
                        cases n0 : (t != 0) with
                        | true =>
                          go_enter Tryd.func9, Tryd.ntmps9
                          go_wp2_with (go_at_call 21; refine (has_any' _ _ _ _ zs _ HX.out).mono ?_; rintro e w' ⟨rfl, rfl⟩; first | rw [a1] | rw [a2] | rw [a14] | rw [a6] | rw [a0] | rw [a64])
                          all_goals go_ret
                          all_goals exact ⟨by simp, rfl⟩
                        | false =>
                          cases a64 : anyB (isv 64) zs with
                          | true =>
                            cases n64 : (t != 64) with
                            | true =>
                              go_enter Tryd.func9, Tryd.ntmps9
                              go_wp2_with (go_at_call 21; refine (has_any' _ _ _ _ zs _ HX.out).mono ?_; rintro e w' ⟨rfl, rfl⟩; first | rw [a1] | rw [a2] | rw [a14] | rw [a6] | rw [a0] | rw [a64])
                              all_goals go_ret
                              all_goals exact ⟨by simp, rfl⟩
                            | false =>
                              go_enter Tryd.func9, Tryd.ntmps9
                              go_wp2_with (go_at_call 21; refine (has_any' _ _ _ _ zs _ HX.out).mono ?_; rintro e w' ⟨rfl, rfl⟩; first | rw [a1] | rw [a2] | rw [a14] | rw [a6] | rw [a0] | rw [a64])
                              all_goals go_ret
                              all_goals exact ⟨by simp, rfl⟩
                          | false =>
                            go_enter Tryd.func9, Tryd.ntmps9
                            go_wp2_with (go_at_call 21; refine (has_any' _ _ _ _ zs _ HX.out).mono ?_; rintro e w' ⟨rfl, rfl⟩; first | rw [a1] | rw [a2] | rw [a14] | rw [a6] | rw [a0] | rw [a64])
                            all_goals go_ret
                            all_goals exact ⟨by simp, rfl⟩
                      | false =>
                        cases a64 : anyB (isv 64) zs with
                        | true =>
                          cases n64 : (t != 64) with
                          | true =>
                            go_enter Tryd.func9, Tryd.ntmps9
                            go_wp2_with (go_at_call 21; refine (has_any' _ _ _ _ zs _ HX.out).mono ?_; rintro e w' ⟨rfl, rfl⟩; first | rw [a1] | rw [a2] | rw [a14] | rw [a6] | rw [a0] | rw [a64])
                            all_goals go_ret
                            all_goals exact ⟨by simp, rfl⟩
                          | false =>
                            go_enter Tryd.func9, Tryd.ntmps9
                            go_wp2_with (go_at_call 21; refine (has_any' _ _ _ _ zs _ HX.out).mono ?_; rintro e w' ⟨rfl, rfl⟩; first | rw [a1] | rw [a2] | rw [a14] | rw [a6] | rw [a0] | rw [a64])
                            all_goals go_ret
                            all_goals exact ⟨by simp, rfl⟩
                        | false =>
                          go_enter Tryd.func9, Tryd.ntmps9
                          go_wp2_with (go_at_call 21; refine (has_any' _ _ _ _ zs _ HX.out).mono ?_; rintro e w' ⟨rfl, rfl⟩; first | rw [a1] | rw [a2] | rw [a14] | rw [a6] | rw [a0] | rw [a64])
                          all_goals go_ret
                          all_goals exact ⟨by simp, rfl⟩

end Go.Proofs.YtdkmmbmelmfhlaaDoor

/- The contracts of the functions of package pad and of its reference: what each call answers. -/
import Derived.Test.YtpccbnlbonjklaaDoorBase
namespace Go.Proofs.YtpccbnlbonjklaaDoor.Pd
open Go.RowKit

/-- the size of a padding -/
def gap (n : Int) : Int := (-n) % 4
theorem gap_bd (n : Int) : 0 ≤ gap n ∧ gap n < 4 := by unfold gap; omega

theorem bits_and3 (x : Int) : bits .and .i64 x 3 = x % 4 := by
  show IntKind.i64.wrap ((BitVec.ofInt 64 x &&& BitVec.ofInt 64 3).toNat : Int) = _
  have e : ((BitVec.ofInt 64 x) &&& (BitVec.ofInt 64 3)).toNat = (x % 4).toNat := by
    rw [BitVec.toNat_and]
    have h3 : (BitVec.ofInt 64 3).toNat = 3 := by decide
    rw [h3, BitVec.toNat_ofInt, nat_mask2]
    omega
  rw [e]
  simp only [IntKind.wrap_i64]
  omega

theorem gap_any (n : Int) (w : World) (h0 : 0 ≤ n) (h1 : n ≤ 4611686018427387904) : Calls Tryd.prog 42 #[.int .i64 n] w fun e w' => e = .returned (.int .i64 (gap n)) ∧ w = w' := by
  go_enter Tryd.func42, Tryd.ntmps42
  go_wp2
  go_ret
  refine ⟨?_, rfl⟩
  show Ending.returned (Value.int IntKind.i64 (bits BinOp.and IntKind.i64 _ 3)) = _
  rw [bits_and3]
  simp only [gap]
theorem up_any (n : Int) (w : World) (h0 : 0 ≤ n) (h1 : n ≤ 2305843009213693952) : Calls Tryd.prog 44 #[.int .i64 n] w fun e w' => e = .returned (.int .i64 (n + gap n)) ∧ w = w' := by
  have hg := gap_bd n
  go_enter Tryd.func44, Tryd.ntmps44
  go_wp2_with (go_at_call 42; refine (gap_any _ _ (by omega) (by omega)).mono ?_; rintro e w' ⟨rfl, rfl⟩)
  go_ret
  exact ⟨rfl, rfl⟩

/-- ref.Gap: counted up -/
theorem gap_stop (n k : Int) (hk0 : 0 ≤ k) (hk : k ≤ gap n) (h : (n + k) % 4 = 0) : k = gap n := by unfold gap at *; omega
theorem gap_go (n k : Int) (hk : k ≤ gap n) (h : ¬ (n + k) % 4 = 0) : k < gap n := by unfold gap at *; omega
theorem refgap_any (n : Int) (w : World) (h0 : 0 ≤ n) (h1 : n ≤ 4611686018427387904) : Calls Tryd.prog 19 #[.int .i64 n] w fun e w' => e = .returned (.int .i64 (gap n)) ∧ w = w' := by
  have hg := gap_bd n
  go_enter Tryd.func19, Tryd.ntmps19
  go_wp2
  go_loop [3] (fun k => ∃ j : Int, 0 ≤ j ∧ j ≤ gap n ∧ k = .int .i64 j) (fun k => (4 - intOf k).toNat)
  case atStart => exact ⟨0, by omega, by omega, rfl⟩
  case round =>
    obtain ⟨j, hj0, hj1, rfl⟩ := hrel
    by_cases h : (n + j) % 4 = 0
    · have hz := gap_stop n j hj0 hj1 h
      have hb : ((n + j) % 4 != 0) = false := by simp [h]
      clear h
      go_wp2
      go_ret
      exact ⟨rfl, rfl⟩
    · have hz := gap_go n j hj1 h
      have hb : ((n + j) % 4 != 0) = true := by simp [h]
      clear h
      go_wp2
      go_round
      case rel => exact ⟨j + 1, by omega, by omega, rfl⟩
      case measure => simp [intOf]; omega


/-- ref.Same: whether two slices read the same -/
theorem same_any (a b : Option Addr) (n c m d : Nat) (xs ys : List Int) (w : World) (hx : Ints .u8 w a n c xs) (hy : Ints .u8 w b m d ys) :
    Calls Tryd.prog 13 #[.slice a n c, .slice b m d] w fun e w' => e = .returned (.bool (eqL xs ys)) ∧ Below w.heap.size w w' := by
  have hl1 := hx.len
  have hl2 := hy.len
  have hc1 := hx.cap
  have hc2 := hy.cap
  by_cases hnm : n = m
  · subst hnm
    rcases hx.cells with ⟨rfl, rfl⟩ | ⟨b1, o1, rfl, hb1, hn, hcx⟩
    · obtain rfl : ys = [] := List.length_eq_zero_iff.1 hl2
      clear hx hy hl1 hl2
      go_enter Tryd.func13, Tryd.ntmps13
      go_wp2
      go_rounds 1
      all_goals go_ret
      all_goals exact ⟨rfl, Below.refl _ _⟩
    · rcases hy.cells with ⟨rfl, rfl⟩ | ⟨b2, o2, rfl, hb2, hn2, hcy⟩
      · omega
      · have HX := Lib.hid hcx
        have HY := Lib.hid hcy
        have L1 := Lib.hid hl1
        have L2 := Lib.hid hl2
        clear hx hy hcx hcy hl1 hl2
        go_enter Tryd.func13, Tryd.ntmps13
        go_wp2
        go_loopw [5] (fun i wr => ∃ k : Nat, k ≤ n ∧ i = .int .i64 k ∧ (∀ j, j < k → nth xs j = nth ys j) ∧ ∃ q, wr = w.drewN q) (fun i _ => n - (intOf i).toNat)
        case atStart => exact ⟨0, Nat.zero_le _, rfl, fun j hj => absurd hj (by omega), 0, rfl⟩
        case round =>
          obtain ⟨k, hk, rfl, heq, q, rfl⟩ := hrel
          have HE := Lib.hid heq
          clear heq
          by_cases hlt : k < n
          · have h1 := HX.out k hlt
            have h2 := HY.out k hlt
            by_cases hv : nth xs k = nth ys k
            · have hv' : (nth xs k != nth ys k) = false := by simp [hv]
              have HV := Lib.hid hv
              clear hv
              go_wp2
              go_quiet (fail)
              go_wp2
              go_roundw
              case rel =>
                refine ⟨k + 1, by omega, by go_num, fun j hj => ?_, _, rfl⟩
                by_cases e : j = k
                · rw [e]; exact HV.out
                · exact HE.out j (by omega)
              case measure => simp [intOf]; omega
            · have hv' : (nth xs k != nth ys k) = true := by simp [hv]
              have HV := Lib.hid hv
              clear hv
              go_wp2
              go_quiet (fail)
              go_wp2
              go_ret
              have hne : xs ≠ ys := fun e => HV.out (by rw [e])
              exact ⟨ret_bool (eqL_false hne).symm, below_drewN (below_drewN (Below.refl _ _) _) _⟩
          · have hkn : k = n := by omega
            have HK := Lib.hid hkn
            clear hkn
            go_wp2
            go_ret
            have he : xs = ys := ext_nth (by rw [L1.out, L2.out]) (fun j hj => HE.out j (by rw [HK.out, ← L1.out]; exact hj))
            exact ⟨ret_bool (eqL_true he).symm, below_drewN (Below.refl _ _) _⟩
  · have hnm' : ((n : Int) != (m : Int)) = true := by simp; omega
    have hne : xs ≠ ys := fun e => hnm (by rw [← hl1, ← hl2, e])
    have HN := Lib.hid hne
    clear hx hy hl1 hl2 hne
    go_enter Tryd.func13, Tryd.ntmps13
    go_wp2
    go_ret
    exact ⟨ret_bool (eqL_false HN.out).symm, Below.refl _ _⟩


/-! Zero, and what it calls -/
/-- all are 0 -/
def zeros (zs : List Int) : Bool := zs.all (fun z => z == 0)
/-- the place of the first that is not 0; -1 if there is none -/
def idx0 (zs : List Int) : Int := match zs.findIdx? (fun z => z != 0) with | some k => (k : Int) | none => -1
theorem nth_all {zs : List Int} (h : ∀ j, j < zs.length → nth zs j = 0) : zeros zs = true := by
  simp only [zeros, List.all_eq_true, beq_iff_eq]
  intro z hz
  obtain ⟨j, hj, rfl⟩ := List.getElem_of_mem hz
  rw [← nth_lt hj]; exact h j hj
theorem zeros_not {zs : List Int} {k : Nat} (hk : k < zs.length) (h : nth zs k ≠ 0) : zeros zs = false := by
  simp only [zeros, List.all_eq_false]
  exact ⟨_, nth_mem hk, by simpa using h⟩
theorem idx0_none {zs : List Int} (h : ∀ j, j < zs.length → nth zs j = 0) : idx0 zs = -1 := by
  have : zs.findIdx? (fun z => z != 0) = none := by
    rw [List.findIdx?_eq_none_iff]
    intro z hz
    obtain ⟨j, hj, rfl⟩ := List.getElem_of_mem hz
    have := h j hj
    rw [nth_lt hj] at this
    simp [this]
  simp [idx0, this]
theorem idx0_some {zs : List Int} {k : Nat} (hk : k < zs.length) (h : nth zs k ≠ 0) (hz : ∀ j, j < k → nth zs j = 0) : idx0 zs = k := by
  have : zs.findIdx? (fun z => z != 0) = some k := by
    rw [List.findIdx?_eq_some_iff_getElem]
    refine ⟨hk, by rw [← nth_lt hk]; simpa using h, fun j hj => ?_⟩
    have := hz j hj
    rw [nth_lt (by omega)] at this
    simp [this]
  simp [idx0, this]
theorem idx0_zeros (zs : List Int) : (idx0 zs ≥ 0) ↔ zeros zs = false := by
  unfold idx0
  cases h : zs.findIdx? (fun z => z != 0) with
  | none =>
    rw [List.findIdx?_eq_none_iff] at h
    have : zeros zs = true := by simp only [zeros, List.all_eq_true, beq_iff_eq]; intro z hz; simpa using h z hz
    simp [this]
  | some k =>
    rw [List.findIdx?_eq_some_iff_getElem] at h
    obtain ⟨hk, h1, _⟩ := h
    have : zeros zs = false := zeros_not hk (by rw [nth_lt hk]; simpa using h1)
    simp [this]

theorem zero1_any (n : Int) (w : World) : Calls Tryd.prog 57 #[.int .u8 n] w fun e w' => e = .returned (.bool (n != 0)) ∧ w = w' := by
  go_enter Tryd.func57, Tryd.ntmps57
  go_wp2
  go_ret
  exact ⟨rfl, rfl⟩
theorem index0_any (a : Option Addr) (n c : Nat) (zs : List Int) (w : World) (hx : Ints .u8 w a n c zs) :
    Calls Tryd.prog 63 #[.slice a n c, .func (.func 57) #[] #[]] w fun e w' => e = .returned (.int .i64 (idx0 zs)) ∧ w = w' := by
  have hl1 := hx.len
  have hc1 := hx.cap
  rcases hx.cells with ⟨rfl, rfl⟩ | ⟨b1, o1, rfl, hb1, hn, hcx⟩
  · clear hx hl1
    go_enter Tryd.func63, Tryd.ntmps63
    go_wp2
    go_rounds 1
    all_goals go_ret
    all_goals exact ⟨rfl, rfl⟩
  · have HX := Lib.hid hcx
    have L1 := Lib.hid hl1
    clear hx hcx hl1
    go_enter Tryd.func63, Tryd.ntmps63
    go_wp2
    go_loop [5, 8] (fun _ i => ∃ k : Nat, k ≤ n ∧ i = .int .i64 k ∧ (∀ j, j < k → nth zs j = 0)) (fun _ i => n - (intOf i).toNat)
    case atStart => exact ⟨0, Nat.zero_le _, rfl, fun j hj => absurd hj (by omega)⟩
    case round =>
      obtain ⟨k, hk, rfl, heq⟩ := hrel
      have HE := Lib.hid heq
      clear heq
      by_cases hlt : k < n
      · have h1 := HX.out k hlt
        by_cases hv : nth zs k = 0
        · have hv' : (nth zs k != 0) = false := by simp [hv]
          have HV := Lib.hid hv
          clear hv
          go_wp2_with (go_at_call 57; refine (zero1_any _ _).mono ?_; rintro e w' ⟨rfl, rfl⟩)
          go_round
          case rel =>
            refine ⟨k + 1, by omega, by go_num, fun j hj => ?_⟩
            by_cases e : j = k
            · rw [e]; exact HV.out
            · exact HE.out j (by omega)
          case measure => simp [intOf]; omega
        · have hv' : (nth zs k != 0) = true := by simp [hv]
          have HV := Lib.hid hv
          clear hv
          go_wp2_with (go_at_call 57; refine (zero1_any _ _).mono ?_; rintro e w' ⟨rfl, rfl⟩)
          go_ret
          have he : idx0 zs = k := idx0_some (by rw [L1.out]; exact hlt) HV.out HE.out
          exact ⟨ret_int he.symm, rfl⟩
      · have hkn : k = n := by omega
        have HK := Lib.hid hkn
        clear hkn
        go_wp2
        go_ret
        have he : idx0 zs = -1 := idx0_none (fun j hj => HE.out j (by rw [HK.out, ← L1.out]; exact hj))
        exact ⟨ret_int he.symm, rfl⟩
theorem contains0_any (a : Option Addr) (n c : Nat) (zs : List Int) (w : World) (hx : Ints .u8 w a n c zs) :
    Calls Tryd.prog 56 #[.slice a n c, .func (.func 57) #[] #[]] w fun e w' => e = .returned (.bool (!zeros zs)) ∧ w = w' := by
  have hz := idx0_zeros zs
  cases h : zeros zs with
  | true =>
    rw [h] at hz
    have hlt : idx0 zs < 0 := by
      have : ¬ idx0 zs ≥ 0 := fun e => by have := hz.1 e; cases this
      omega
    clear hz h
    go_enter Tryd.func56, Tryd.ntmps56
    go_wp2_with (go_at_call 63; refine (index0_any _ _ _ _ _ hx).mono ?_; rintro e w' ⟨rfl, rfl⟩)
    go_ret
    exact ⟨by simp <;> omega, rfl⟩
  | false =>
    rw [h] at hz
    have hlt : 0 ≤ idx0 zs := hz.2 rfl
    clear hz h
    go_enter Tryd.func56, Tryd.ntmps56
    go_wp2_with (go_at_call 63; refine (index0_any _ _ _ _ _ hx).mono ?_; rintro e w' ⟨rfl, rfl⟩)
    go_ret
    exact ⟨by simp <;> omega, rfl⟩
theorem zero_any (a : Option Addr) (n c : Nat) (zs : List Int) (w : World) (hx : Ints .u8 w a n c zs) :
    Calls Tryd.prog 49 #[.slice a n c] w fun e w' => e = .returned (.bool (zeros zs)) ∧ w = w' := by
  go_enter Tryd.func49, Tryd.ntmps49
  go_wp2_with (go_at_call 56; refine (contains0_any _ _ _ _ _ hx).mono ?_; rintro e w' ⟨rfl, rfl⟩)
  go_ret
  exact ⟨by simp, rfl⟩

theorem refzero_any (a : Option Addr) (n c : Nat) (zs : List Int) (w : World) (hx : Ints .u8 w a n c zs) :
    Calls Tryd.prog 24 #[.slice a n c] w fun e w' => e = .returned (.bool (zeros zs)) ∧ w = w' := by
  have hl1 := hx.len
  have hc1 := hx.cap
  rcases hx.cells with ⟨rfl, rfl⟩ | ⟨b1, o1, rfl, hb1, hn, hcx⟩
  · clear hx hl1
    go_enter Tryd.func24, Tryd.ntmps24
    go_wp2
    go_rounds 1
    all_goals go_ret
    all_goals exact ⟨rfl, rfl⟩
  · have HX := Lib.hid hcx
    have L1 := Lib.hid hl1
    clear hx hcx hl1
    go_enter Tryd.func24, Tryd.ntmps24
    go_wp2
    go_loop [3] (fun i => ∃ k : Nat, k ≤ n ∧ i = .int .i64 k ∧ (∀ j, j < k → nth zs j = 0)) (fun i => n - (intOf i).toNat)
    case atStart => exact ⟨0, Nat.zero_le _, rfl, fun j hj => absurd hj (by omega)⟩
    case round =>
      obtain ⟨k, hk, rfl, heq⟩ := hrel
      have HE := Lib.hid heq
      clear heq
      by_cases hlt : k < n
      · have h1 := HX.out k hlt
        by_cases hv : nth zs k = 0
        · have hv' : (nth zs k != 0) = false := by simp [hv]
          have HV := Lib.hid hv
          clear hv
          go_wp2
          go_round
          case rel =>
            refine ⟨k + 1, by omega, by go_num, fun j hj => ?_⟩
            by_cases e : j = k
            · rw [e]; exact HV.out
            · exact HE.out j (by omega)
          case measure => simp [intOf]; omega
        · have hv' : (nth zs k != 0) = true := by simp [hv]
          have HV := Lib.hid hv
          clear hv
          go_wp2
          go_ret
          have he : zeros zs = false := zeros_not (by rw [L1.out]; exact hlt) HV.out
          exact ⟨ret_bool he.symm, rfl⟩
      · have hkn : k = n := by omega
        have HK := Lib.hid hkn
        clear hkn
        go_wp2
        go_ret
        have he : zeros zs = true := nth_all (fun j hj => HE.out j (by rw [HK.out, ← L1.out]; exact hj))
        exact ⟨ret_bool he.symm, rfl⟩


/-! Next -/
def nextB (zs : List Int) (n : Int) : Bool := decide (0 ≤ n) && decide (n ≤ zs.length) && decide (n + gap n ≤ zs.length) && zeros ((zs.take (n + gap n).toNat).drop n.toNat)
def nextN (zs : List Int) (n : Int) : Int := if nextB zs n = true then n + gap n else 0
theorem next_no {zs : List Int} {n : Int} (h : nextB zs n = false) : nextN zs n = 0 := by simp [nextN, h]
theorem next_yes {zs : List Int} {n : Int} (h : nextB zs n = true) : nextN zs n = n + gap n := by simp [nextN, h]
theorem ret_next {zs : List Int} {n : Int} {x : Int} {b : Bool} (hb : nextB zs n = b) (hx : nextN zs n = x) : Ending.returned (.tuple #[.int .i64 x, .bool b]) = .returned (.tuple #[.int .i64 (nextN zs n), .bool (nextB zs n)]) := by rw [hb, hx]

end Go.Proofs.YtpccbnlbonjklaaDoor.Pd

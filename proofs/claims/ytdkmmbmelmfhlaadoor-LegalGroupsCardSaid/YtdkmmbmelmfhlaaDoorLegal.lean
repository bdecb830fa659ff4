/- Legal lists of types: the plain words, and the contracts of what legal.May and its reference call. -/
import Derived.Test.YtdkmmbmelmfhlaaDoorBase
import Derived.Lib.LaidTab
import GoSem.ClaimJoined
namespace Go.Proofs.YtdkmmbmelmfhlaaDoor
open Go.RowKit

/-- the types that stand alone -/
def single (t : Int) : Bool := t == 1 || t == 2 || t == 14
def dat (t : Int) : Bool := t == 0 || t == 64
def oth (t x : Int) : Bool := dat x && x != t
def isv (t x : Int) : Bool := t == x
/-- one of them is so -/
def anyB (p : Int → Bool) (zs : List Int) : Bool := zs.any p
/-- the place of the first that is so; -1 if there is none -/
def idxB (p : Int → Bool) (zs : List Int) : Int := match zs.findIdx? p with | some k => (k : Int) | none => -1
theorem anyB_none {p : Int → Bool} {zs : List Int} (h : ∀ j, j < zs.length → p (nth zs j) = false) : anyB p zs = false := by
  simp only [anyB, List.any_eq_false]
  intro z hz
  obtain ⟨j, hj, rfl⟩ := List.getElem_of_mem hz
  have := h j hj
  rw [nth_lt hj] at this
  simp [this]
theorem anyB_some {p : Int → Bool} {zs : List Int} {k : Nat} (hk : k < zs.length) (h : p (nth zs k) = true) : anyB p zs = true := by
  simp only [anyB, List.any_eq_true]
  exact ⟨_, nth_mem hk, h⟩
theorem idxB_none {p : Int → Bool} {zs : List Int} (h : ∀ j, j < zs.length → p (nth zs j) = false) : idxB p zs = -1 := by
  have : zs.findIdx? p = none := by
    rw [List.findIdx?_eq_none_iff]
    intro z hz
    obtain ⟨j, hj, rfl⟩ := List.getElem_of_mem hz
    have := h j hj
    rw [nth_lt hj] at this
    simp [this]
  simp [idxB, this]
theorem idxB_some {p : Int → Bool} {zs : List Int} {k : Nat} (hk : k < zs.length) (h : p (nth zs k) = true) (hz : ∀ j, j < k → p (nth zs j) = false) : idxB p zs = k := by
  have : zs.findIdx? p = some k := by
    rw [List.findIdx?_eq_some_iff_getElem]
    refine ⟨hk, by rw [← nth_lt hk]; simpa using h, fun j hj => ?_⟩
    have := hz j hj
    rw [nth_lt (by omega)] at this
    simp [this]
  simp [idxB, this]
theorem idxB_any (p : Int → Bool) (zs : List Int) : (idxB p zs ≥ 0) ↔ anyB p zs = true := by
  unfold idxB
  cases h : zs.findIdx? p with
  | none =>
    rw [List.findIdx?_eq_none_iff] at h
    have : anyB p zs = false := by simp only [anyB, List.any_eq_false]; intro z hz; simpa using h z hz
    simp [this]
  | some k =>
    rw [List.findIdx?_eq_some_iff_getElem] at h
    obtain ⟨hk, h1, _⟩ := h
    have : anyB p zs = true := anyB_some hk (by rw [nth_lt hk]; simpa using h1)
    simp [this]

theorem gAlone : Tryd.prog.globalNamed "wharf/legal.alone" = some 0 := by kernel_rfl
/-- the list of those in memory -/
def AloneOk (w : World) : Prop := Ints .u8 w (some ⟨0, 0, none⟩) 3 3 [1, 2, 14]
theorem AloneOk.below {w w' : World} (h : AloneOk w) (hb : Below w.heap.size w w') : AloneOk w' := Ints.below h hb
theorem single_any' : ∀ t, anyB (isv t) [1, 2, 14] = single t := fun t => by simp [anyB, isv, single, Bool.or_assoc]

theorem isdata_any (t : Int) (w : World) : Calls Tryd.prog 19 #[.int .u8 t] w fun e w' => e = .returned (.bool (dat t)) ∧ w = w' := by
  unfold dat
  cases h0 : (t == 0)
  all_goals
    go_enter Tryd.func19, Tryd.ntmps19
    go_wp2
    go_ret
    exact ⟨by simp, rfl⟩

theorem index_any (t : Int) (a : Option Addr) (n c : Nat) (zs : List Int) (w : World) (hx : Ints .u8 w a n c zs) :
    Calls Tryd.prog 22 #[.slice a n c, .int .u8 t] w fun e w' => e = .returned (.int .i64 (idxB (isv t) zs)) ∧ w = w' := by
  have hl1 := hx.len
  have hc1 := hx.cap
  rcases hx.cells with ⟨rfl, rfl⟩ | ⟨b1, o1, rfl, hb1, hn, hcx⟩
  · clear hx hl1
    go_enter Tryd.func22, Tryd.ntmps22
    go_wp2
    go_rounds 1
    all_goals go_ret
    all_goals exact ⟨rfl, rfl⟩
  · have HX := Lib.hid hcx
    have L1 := Lib.hid hl1
    clear hx hcx hl1
    go_enter Tryd.func22, Tryd.ntmps22
    go_wp2
    go_loop [5, 8] (fun _ i => ∃ k : Nat, k ≤ n ∧ i = .int .i64 k ∧ (∀ j, j < k → (isv t) (nth zs j) = false)) (fun _ i => n - (intOf i).toNat)
    case atStart => exact ⟨0, Nat.zero_le _, rfl, fun j hj => absurd hj (by omega)⟩
    case round =>
      obtain ⟨k, hk, rfl, heq⟩ := hrel
      have HE := Lib.hid heq
      clear heq
      by_cases hlt : k < n
      · have h1 := HX.out k hlt
        cases hv : (isv t) (nth zs k) with
        | false =>
          have HV := Lib.hid hv
          have hv' : (t == nth zs k) = _ := hv; clear hv
          go_wp2
          go_round
          case rel =>
            refine ⟨k + 1, by omega, by go_num, fun j hj => ?_⟩
            by_cases e : j = k
            · rw [e]; exact HV.out
            · exact HE.out j (by omega)
          case measure => simp [intOf]; omega
        | true =>
          have HV := Lib.hid hv
          have hv' : (t == nth zs k) = _ := hv; clear hv
          go_wp2
          go_ret
          have he : idxB (isv t) zs = k := idxB_some (by rw [L1.out]; exact hlt) HV.out HE.out
          exact ⟨ret_int he.symm, rfl⟩
      · have hkn : k = n := by omega
        have HK := Lib.hid hkn
        clear hkn
        go_wp2
        go_ret
        have he : idxB (isv t) zs = -1 := idxB_none (fun j hj => HE.out j (by rw [HK.out, ← L1.out]; exact hj))
        exact ⟨ret_int he.symm, rfl⟩

theorem contains_any (t : Int) (a : Option Addr) (n c : Nat) (zs : List Int) (w : World) (hx : Ints .u8 w a n c zs) :
    Calls Tryd.prog 17 #[.slice a n c, .int .u8 t] w fun e w' => e = .returned (.bool (anyB (isv t) zs)) ∧ w = w' := by
  have hz := idxB_any (isv t) zs
  cases h : anyB (isv t) zs with
  | false =>
    rw [h] at hz
    have hlt : idxB (isv t) zs < 0 := by
      have : ¬ idxB (isv t) zs ≥ 0 := fun e => by have := hz.1 e; cases this
      omega
    clear hz h
    go_enter Tryd.func17, Tryd.ntmps17
    go_wp2_with (go_at_call 22; refine (index_any _ _ _ _ _ _ hx).mono ?_; rintro e w' ⟨rfl, rfl⟩)
    go_ret
    exact ⟨by simp <;> omega, rfl⟩
  | true =>
    rw [h] at hz
    have hlt : 0 ≤ idxB (isv t) zs := hz.2 rfl
    clear hz h
    go_enter Tryd.func17, Tryd.ntmps17
    go_wp2_with (go_at_call 22; refine (index_any _ _ _ _ _ _ hx).mono ?_; rintro e w' ⟨rfl, rfl⟩)
    go_ret
    exact ⟨by simp <;> omega, rfl⟩

/-- May$1 -/
theorem single_any (t : Int) (w : World) (hA : AloneOk w) : Calls Tryd.prog 16 #[.int .u8 t] w fun e w' => e = .returned (.bool (single t)) ∧ w = w' := by
  have HA := Lib.hid hA
  clear hA
  go_enter Tryd.func16, Tryd.ntmps16
  go_wp2_with fail
  refine (contains_any t _ _ _ [1, 2, 14] _ HA.out).mono ?_
  rintro e w' ⟨rfl, rfl⟩
  rw [single_any']
  go_wp2
  go_ret
  exact ⟨rfl, rfl⟩
/-- May$2 -/
theorem other_any (t x : Int) (b : Nat) (w : World) (hA : w.cell? ⟨b, 0, none⟩ = some (.int .u8 t)) : Calls Tryd.prog 18 #[.int .u8 x, .pointer (some ⟨b, 0, none⟩)] w fun e w' => e = .returned (.bool (oth t x)) ∧ w = w' := by
  unfold oth
  cases h0 : dat x
  all_goals
    go_enter Tryd.func18, Tryd.ntmps18
    go_wp2_with fail
    refine (isdata_any _ _).mono ?_
    rintro e w' ⟨rfl, rfl⟩
    rw [h0]
    go_wp2
    go_ret
    exact ⟨by simp, rfl⟩

theorem index1_any (_u : Unit) (a : Option Addr) (n c : Nat) (zs : List Int) (w : World) (hA : AloneOk w) (hx : Ints .u8 w a n c zs) :
    Calls Tryd.prog 23 #[.slice a n c, .func (.func 16) #[] #[]] w fun e w' => e = .returned (.int .i64 (idxB (single) zs)) ∧ w = w' := by
  have hl1 := hx.len
  have hc1 := hx.cap
  rcases hx.cells with ⟨rfl, rfl⟩ | ⟨b1, o1, rfl, hb1, hn, hcx⟩
  · clear hx hl1
    go_enter Tryd.func23, Tryd.ntmps23
    go_wp2
    go_rounds 1
    all_goals go_ret
    all_goals exact ⟨rfl, rfl⟩
  · have HX := Lib.hid hcx
    have L1 := Lib.hid hl1
    clear hx hcx hl1
    go_enter Tryd.func23, Tryd.ntmps23
    go_wp2
    go_loop [5, 8] (fun _ i => ∃ k : Nat, k ≤ n ∧ i = .int .i64 k ∧ (∀ j, j < k → (single) (nth zs j) = false)) (fun _ i => n - (intOf i).toNat)
    case atStart => exact ⟨0, Nat.zero_le _, rfl, fun j hj => absurd hj (by omega)⟩
    case round =>
      obtain ⟨k, hk, rfl, heq⟩ := hrel
      have HE := Lib.hid heq
      clear heq
      by_cases hlt : k < n
      · have h1 := HX.out k hlt
        cases hv : (single) (nth zs k) with
        | false =>
          have HV := Lib.hid hv
          clear hv
          go_wp2_with (go_at_call 16; refine (single_any _ _ hA).mono ?_; rintro e w' ⟨rfl, rfl⟩; rw [HV.out])
          go_round
          case rel =>
            refine ⟨k + 1, by omega, by go_num, fun j hj => ?_⟩
            by_cases e : j = k
            · rw [e]; exact HV.out
            · exact HE.out j (by omega)
          case measure => simp [intOf]; omega
        | true =>
          have HV := Lib.hid hv
          clear hv
          go_wp2_with (go_at_call 16; refine (single_any _ _ hA).mono ?_; rintro e w' ⟨rfl, rfl⟩; rw [HV.out])
          go_ret
          have he : idxB (single) zs = k := idxB_some (by rw [L1.out]; exact hlt) HV.out HE.out
          exact ⟨ret_int he.symm, rfl⟩
      · have hkn : k = n := by omega
        have HK := Lib.hid hkn
        clear hkn
        go_wp2
        go_ret
        have he : idxB (single) zs = -1 := idxB_none (fun j hj => HE.out j (by rw [HK.out, ← L1.out]; exact hj))
        exact ⟨ret_int he.symm, rfl⟩

theorem contains1_any (a : Option Addr) (n c : Nat) (zs : List Int) (w : World) (hA : AloneOk w) (hx : Ints .u8 w a n c zs) :
    Calls Tryd.prog 20 #[.slice a n c, .func (.func 16) #[] #[]] w fun e w' => e = .returned (.bool (anyB single zs)) ∧ w = w' := by
  have hz := idxB_any (single) zs
  cases h : anyB (single) zs with
  | false =>
    rw [h] at hz
    have hlt : idxB (single) zs < 0 := by
      have : ¬ idxB (single) zs ≥ 0 := fun e => by have := hz.1 e; cases this
      omega
    clear hz h
    go_enter Tryd.func20, Tryd.ntmps20
    go_wp2_with (go_at_call 23; refine (index1_any () _ _ _ _ _ hA hx).mono ?_; rintro e w' ⟨rfl, rfl⟩)
    go_ret
    exact ⟨by simp <;> omega, rfl⟩
  | true =>
    rw [h] at hz
    have hlt : 0 ≤ idxB (single) zs := hz.2 rfl
    clear hz h
    go_enter Tryd.func20, Tryd.ntmps20
    go_wp2_with (go_at_call 23; refine (index1_any () _ _ _ _ _ hA hx).mono ?_; rintro e w' ⟨rfl, rfl⟩)
    go_ret
    exact ⟨by simp <;> omega, rfl⟩
theorem index2_any (t : Int) (b : Nat) (a : Option Addr) (n c : Nat) (zs : List Int) (w : World) (hA : w.cell? ⟨b, 0, none⟩ = some (.int .u8 t)) (hx : Ints .u8 w a n c zs) :
    Calls Tryd.prog 23 #[.slice a n c, .func (.func 18) #[] #[.pointer (some ⟨b, 0, none⟩)]] w fun e w' => e = .returned (.int .i64 (idxB (oth t) zs)) ∧ w = w' := by
  have hl1 := hx.len
  have hc1 := hx.cap
  rcases hx.cells with ⟨rfl, rfl⟩ | ⟨b1, o1, rfl, hb1, hn, hcx⟩
  · clear hx hl1
    go_enter Tryd.func23, Tryd.ntmps23
    go_wp2
    go_rounds 1
    all_goals go_ret
    all_goals exact ⟨rfl, rfl⟩
  · have HX := Lib.hid hcx
    have L1 := Lib.hid hl1
    clear hx hcx hl1
    go_enter Tryd.func23, Tryd.ntmps23
    go_wp2
    go_loop [5, 8] (fun _ i => ∃ k : Nat, k ≤ n ∧ i = .int .i64 k ∧ (∀ j, j < k → (oth t) (nth zs j) = false)) (fun _ i => n - (intOf i).toNat)
    case atStart => exact ⟨0, Nat.zero_le _, rfl, fun j hj => absurd hj (by omega)⟩
    case round =>
      obtain ⟨k, hk, rfl, heq⟩ := hrel
      have HE := Lib.hid heq
      clear heq
      by_cases hlt : k < n
      · have h1 := HX.out k hlt
        cases hv : (oth t) (nth zs k) with
        | false =>
          have HV := Lib.hid hv
          clear hv
          go_wp2_with (go_at_call 18; refine (other_any t _ b _ hA).mono ?_; rintro e w' ⟨rfl, rfl⟩; rw [HV.out])
          go_round
          case rel =>
            refine ⟨k + 1, by omega, by go_num, fun j hj => ?_⟩
            by_cases e : j = k
            · rw [e]; exact HV.out
            · exact HE.out j (by omega)
          case measure => simp [intOf]; omega
        | true =>
          have HV := Lib.hid hv
          clear hv
          go_wp2_with (go_at_call 18; refine (other_any t _ b _ hA).mono ?_; rintro e w' ⟨rfl, rfl⟩; rw [HV.out])
          go_ret
          have he : idxB (oth t) zs = k := idxB_some (by rw [L1.out]; exact hlt) HV.out HE.out
          exact ⟨ret_int he.symm, rfl⟩
      · have hkn : k = n := by omega
        have HK := Lib.hid hkn
        clear hkn
        go_wp2
        go_ret
        have he : idxB (oth t) zs = -1 := idxB_none (fun j hj => HE.out j (by rw [HK.out, ← L1.out]; exact hj))
        exact ⟨ret_int he.symm, rfl⟩

theorem contains2_any (t : Int) (b : Nat) (a : Option Addr) (n c : Nat) (zs : List Int) (w : World) (hA : w.cell? ⟨b, 0, none⟩ = some (.int .u8 t)) (hx : Ints .u8 w a n c zs) :
    Calls Tryd.prog 20 #[.slice a n c, .func (.func 18) #[] #[.pointer (some ⟨b, 0, none⟩)]] w fun e w' => e = .returned (.bool (anyB (oth t) zs)) ∧ w = w' := by
  have hz := idxB_any (oth t) zs
  cases h : anyB (oth t) zs with
  | false =>
    rw [h] at hz
    have hlt : idxB (oth t) zs < 0 := by
      have : ¬ idxB (oth t) zs ≥ 0 := fun e => by have := hz.1 e; cases this
      omega
    clear hz h
    go_enter Tryd.func20, Tryd.ntmps20
    go_wp2_with (go_at_call 23; refine (index2_any t b _ _ _ _ _ hA hx).mono ?_; rintro e w' ⟨rfl, rfl⟩)
    go_ret
    exact ⟨by simp <;> omega, rfl⟩
  | true =>
    rw [h] at hz
    have hlt : 0 ≤ idxB (oth t) zs := hz.2 rfl
    clear hz h
    go_enter Tryd.func20, Tryd.ntmps20
    go_wp2_with (go_at_call 23; refine (index2_any t b _ _ _ _ _ hA hx).mono ?_; rintro e w' ⟨rfl, rfl⟩)
    go_ret
    exact ⟨by simp <;> omega, rfl⟩

/-- ref.has -/
theorem has_any (t : Int) (a : Option Addr) (n c : Nat) (zs : List Int) (w : World) (hx : Ints .u8 w a n c zs) :
    Calls Tryd.prog 21 #[.slice a n c, .int .u8 t] w fun e w' => e = .returned (.bool (anyB (fun x => x == t) zs)) ∧ w = w' := by
  have hl1 := hx.len
  have hc1 := hx.cap
  rcases hx.cells with ⟨rfl, rfl⟩ | ⟨b1, o1, rfl, hb1, hn, hcx⟩
  · clear hx hl1
    go_enter Tryd.func21, Tryd.ntmps21
    go_wp2
    go_rounds 1
    all_goals go_ret
    all_goals exact ⟨rfl, rfl⟩
  · have HX := Lib.hid hcx
    have L1 := Lib.hid hl1
    clear hx hcx hl1
    go_enter Tryd.func21, Tryd.ntmps21
    go_wp2
    go_loop [5] (fun i => ∃ k : Nat, k ≤ n ∧ i = .int .i64 k ∧ (∀ j, j < k → (nth zs j == t) = false)) (fun i => n - (intOf i).toNat)
    case atStart => exact ⟨0, Nat.zero_le _, rfl, fun j hj => absurd hj (by omega)⟩
    case round =>
      obtain ⟨k, hk, rfl, heq⟩ := hrel
      have HE := Lib.hid heq
      clear heq
      by_cases hlt : k < n
      · have h1 := HX.out k hlt
        cases hv : (nth zs k == t) with
        | false =>
          have HV := Lib.hid hv
          go_wp2
          go_round
          case rel =>
            refine ⟨k + 1, by omega, by go_num, fun j hj => ?_⟩
            by_cases e : j = k
            · rw [e]; exact HV.out
            · exact HE.out j (by omega)
          case measure => simp [intOf]; omega
        | true =>
          have HV := Lib.hid hv
          go_wp2
          go_ret
          have he : anyB (fun x => x == t) zs = true := anyB_some (by rw [L1.out]; exact hlt) HV.out
          exact ⟨ret_bool he.symm, rfl⟩
      · have hkn : k = n := by omega
        have HK := Lib.hid hkn
        clear hkn
        go_wp2
        go_ret
        have he : anyB (fun x => x == t) zs = false := anyB_none (fun j hj => HE.out j (by rw [HK.out, ← L1.out]; exact hj))
        exact ⟨ret_bool he.symm, rfl⟩

end Go.Proofs.YtdkmmbmelmfhlaaDoor

/- The contracts of kind.ByName and what it calls. -/
import Derived.Test.YtoioindpmgkefaaDoorKind4
namespace Go.Proofs.YtoioindpmgkefaaDoor
open Go.RowKit

/-- whether two strings are one -/
def nmB (s t : ByteArray) : Bool := s.toList == t.toList
/-- the place of a name in the table; 23 if it has none -/
def nix (name : ByteArray) : Nat := ((List.range 23).find? (fun i => nmB (kname i) name)).getD 23
theorem nm_all : ∀ i j : Fin 23, (kname i.val).toList = (kname j.val).toList → i = j := by decide +kernel
theorem nix_at {name : ByteArray} {k : Nat} (hk : k < 23) (h : nmB (kname k) name = true) : nix name = k := by
  have hs : ∃ i, (List.range 23).find? (fun i => nmB (kname i) name) = some i := by
    cases hf : (List.range 23).find? (fun i => nmB (kname i) name) with
    | some i => exact ⟨i, rfl⟩
    | none =>
      rw [List.find?_eq_none] at hf
      exact absurd h (by simpa using hf k (by simpa using hk))
  obtain ⟨i, hi⟩ := hs
  have h1 := List.find?_some hi
  have h2 : i < 23 := by simpa using List.mem_of_find?_eq_some hi
  have e : (kname i).toList = (kname k).toList := by
    simp only [nmB, beq_iff_eq] at h h1
    rw [h1, h]
  have := nm_all ⟨i, h2⟩ ⟨k, hk⟩ e
  simp only [Fin.mk.injEq] at this
  simp [nix, hi, this]
theorem nix_none {name : ByteArray} (h : ∀ i, i < 23 → nmB (kname i) name = false) : nix name = 23 := by
  have : (List.range 23).find? (fun i => nmB (kname i) name) = none := by
    rw [List.find?_eq_none]
    intro i hi
    rw [h i (by simpa using hi)]
    decide
  simp [nix, this]

/-- .. as IndexFunc tells it: -1 if there is none -/
def nixI (name : ByteArray) : Int := if nix name < 23 then (nix name : Int) else -1
theorem nixI_at {name : ByteArray} {k : Nat} (h : nix name = k) (hk : k < 23) : nixI name = k := by simp [nixI, h, hk]
theorem nixI_none {name : ByteArray} (h : ¬ nix name < 23) : nixI name = -1 := by simp [nixI, h]

theorem byname1_any (a : Int) (s name : ByteArray) (m l mo u k : Int) (B : Nat) (w : World) (hc : w.cell? ⟨B, 0, none⟩ = some (.string name)) :
    Calls Tryd.prog 25 #[.agg #[.int .u8 a, .string s, .int .u8 m, .int .i64 l, .int .i64 mo, .int .i64 u, .int .i64 k], .pointer (some ⟨B, 0, none⟩)] w fun e w' => e = .returned (.bool (nmB s name)) ∧ Below w.heap.size w w' := by
  have hB := lt_cell hc
  go_enter Tryd.func25, Tryd.ntmps25
  go_wp2
  go_ret
  exact ⟨rfl, (Below.refl _ _).alloc (Nat.le_refl _) _⟩

theorem index_any (name : ByteArray) (B : Nat) (w : World) (hT : TabOk w) (hc : w.cell? ⟨B, 0, none⟩ = some (.string name)) :
    Calls Tryd.prog 24 #[.slice (some ⟨0, 0, none⟩) 23 23, .func (.func 25) #[] #[.pointer (some ⟨B, 0, none⟩)]] w fun e w' =>
      e = .returned (.int .i64 (nixI name)) ∧ Below w.heap.size w w' := by
  have HT := Lib.hid hT
  have HC := Lib.hid hc
  have hB := lt_cell hc
  clear hT hc
  go_enter Tryd.func24, Tryd.ntmps24
  go_wp2
  go_loopw [5, 8] (fun _ i wr => ∃ k : Nat, k ≤ 23 ∧ i = .int .i64 k ∧ (∀ j, j < k → nmB (kname j) name = false) ∧ Below w.heap.size w wr) (fun _ i _ => 23 - (intOf i).toNat)
  case atStart => exact ⟨0, by omega, rfl, fun j hj => by omega, Below.refl _ _⟩
  case round =>
    obtain ⟨k, hk, rfl, hall, hbw⟩ := hrel
    have HA := Lib.hid hall
    have HW := Lib.hid hbw
    clear hall hbw
    by_cases hlt : k < 23
    · have hrow := (HT.out.below HW.out).1 k hlt
      unfold RowAt at hrow
      obtain ⟨r0, r1, r2, r3, r4, r5, r6⟩ := hrow
      have hcw : Hid (wr.cell? ⟨B, 0, none⟩ = some (.string name)) := (HW.out.cell (p := ⟨B, 0, none⟩) hB).trans HC.out
      cases hn : nmB (kname k) name with
      | true =>
        have HX := Lib.hid (nix_at hlt hn)
        have HN := Lib.hid hn
        clear hn
        go_wp2_with (go_at_call 25; refine (byname1_any _ _ name _ _ _ _ _ _ _ hcw.out).mono ?_; rintro e w2 ⟨rfl, hb2⟩; rw [HN.out]; have HW2 := Lib.hid (HW.out.trans (hb2.mono HW.out.size)); clear hb2)
        go_ret
        exact ⟨ret_int (nixI_at HX.out hlt).symm, HW2.out⟩
      | false =>
        have HN := Lib.hid hn
        clear hn
        go_wp2_with (go_at_call 25; refine (byname1_any _ _ name _ _ _ _ _ _ _ hcw.out).mono ?_; rintro e w2 ⟨rfl, hb2⟩; rw [HN.out]; have HW2 := Lib.hid (HW.out.trans (hb2.mono HW.out.size)); clear hb2)
        go_roundw
        case rel =>
          refine ⟨k + 1, by omega, by go_num, fun j hj => ?_, HW2.out⟩
          by_cases e : j = k
          · rw [e]; exact HN.out
          · exact HA.out j (by omega)
        case measure => simp [intOf]; omega
    · have HX := Lib.hid (nix_none (fun i hi => HA.out i (by omega)))
      go_wp2
      go_ret
      exact ⟨ret_int (nixI_none (by rw [HX.out]; decide)).symm, HW.out⟩

theorem byname_any (name : ByteArray) (w : World) (hT : TabOk w) :
    Calls Tryd.prog 21 #[.string name] w fun e w' => e = .returned (.tuple #[.agg #[.int .u8 (kty (nix name)), .string (kname (nix name)), .int .u8 (kmask (nix name)), .int .i64 (kleast (nix name)), .int .i64 (kmost (nix name)), .int .i64 (kunit (nix name)), .int .i64 (kkids (nix name))], .bool (decide (nix name < 23))]) ∧ Below w.heap.size w w' := by
  have hmf : ∀ (fn : Fn) (first cap : Array Value) (w : World), (Instr.makeFunc fn first cap).run Tryd.prog w = .ok (.func fn first cap) w := fun _ _ _ _ => rfl
  have hc1 : ((w.alloc (.cells #[.string name] 9)).alloc (.cells #[.int .u8 0, .string ⟨#[]⟩, .int .u8 0, .int .i64 0, .int .i64 0, .int .i64 0, .int .i64 0] 33)).cell? ⟨w.heap.size, 0, none⟩ = some (.string name) := by
    rw [World.cell?_alloc_past _ _ _ (by simp), World.cell?_alloc_at _ _ _ _ rfl]; rfl
  have hb0 : Below w.heap.size w ((w.alloc (.cells #[.string name] 9)).alloc (.cells #[.int .u8 0, .string ⟨#[]⟩, .int .u8 0, .int .i64 0, .int .i64 0, .int .i64 0, .int .i64 0] 33)) :=
    ((Below.refl _ _).alloc (Nat.le_refl _) _).alloc (by simp) _
  have HC := Lib.hid hc1
  have HB0 := Lib.hid hb0
  have HT := Lib.hid hT
  clear hc1 hb0 hT
  by_cases hn : nix name < 23
  all_goals
    go_enter Tryd.func21, Tryd.ntmps21
    go_wp2_with fail
    refine (index_any name _ _ (HT.out.below HB0.out) HC.out).mono ?_
    rintro e w1 ⟨rfl, hb1⟩
    obtain ⟨s0, s1, s2, s3, s4, s5, s6, s7, s8⟩ := newRow hb1
    rw [World.size_alloc] at s0 s1 s2 s3 s4 s5 s6 s7 s8
    have HW := Lib.hid (HB0.out.trans (hb1.mono (B' := w.heap.size) (by simp; omega)))
    have S0 := Lib.hid s0
    clear s0 hb1
  · rw [nixI_at rfl hn]
    have hrow := (HT.out.below HW.out).1 _ hn
    unfold RowAt at hrow
    obtain ⟨r0, r1, r2, r3, r4, r5, r6⟩ := hrow
    have hd : Hid (decide (nix name < 23) = true) := by simp [Hid, hn]
    go_wp2
    refine bodyPost_ret (v := .tuple #[.agg #[.int .u8 (kty (nix name)), .string (kname (nix name)), .int .u8 (kmask (nix name)), .int .i64 (kleast (nix name)), .int .i64 (kmost (nix name)), .int .i64 (kunit (nix name)), .int .i64 (kkids (nix name))], .bool true]) (res_row rfl rfl rfl (set7 S0.out _ _ _ _ _ _ _)) rfl ⟨by rw [hd.out], ?_⟩
    exact (((((((HW.out.setCell (Nat.le_succ _) _).setCell (Nat.le_succ _) _).setCell (Nat.le_succ _) _).setCell (Nat.le_succ _) _).setCell (Nat.le_succ _) _).setCell (Nat.le_succ _) _).setCell (Nat.le_succ _) _)
  · rw [nixI_none hn]
    have hd : Hid (decide (nix name < 23) = false ∧ nix name = 23) := by
      refine ⟨by simp [hn], ?_⟩
      have : nix name ≤ 23 := by
        unfold nix
        cases hf : (List.range 23).find? (fun i => nmB (kname i) name) with
        | none => simp
        | some i => have := List.mem_of_find?_eq_some hf; simp at this; simp; omega
      omega
    go_wp2
    refine bodyPost_ret (v := .tuple #[.agg #[.int .u8 0, .string ⟨#[]⟩, .int .u8 0, .int .i64 0, .int .i64 0, .int .i64 0, .int .i64 0], .bool false]) (res_row rfl rfl rfl (set7 S0.out _ _ _ _ _ _ _)) rfl ⟨by rw [hd.out.1, hd.out.2]; exact ret23, ?_⟩
    exact (((((((HW.out.setCell (Nat.le_succ _) _).setCell (Nat.le_succ _) _).setCell (Nat.le_succ _) _).setCell (Nat.le_succ _) _).setCell (Nat.le_succ _) _).setCell (Nat.le_succ _) _).setCell (Nat.le_succ _) _)

end Go.Proofs.YtoioindpmgkefaaDoor

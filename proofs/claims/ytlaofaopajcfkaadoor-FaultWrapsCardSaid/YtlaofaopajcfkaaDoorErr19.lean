/- strconv.Itoa: the text is a function of the number and of the table. -/
import Derived.Test.YtlaofaopajcfkaaDoorErr18
import Derived.Laws.IdiomStrings
namespace Go.Proofs.YtlaofaopajcfkaaDoor
set_option maxRecDepth 100000
set_option linter.unusedVariables false
open Go.RowKit

/-- the text of a number, the table being tb -/
def txt (tb : Nat → Int) (c : Int) : ByteArray :=
  if 0 ≤ c ∧ c < 100 then ⟨(Lib.decDigits c.toNat).toArray⟩
  else if c < 0 then ⟨(45 :: fD (ndN tb c.natAbs) c.natAbs).toArray⟩ else ⟨(fD (ndN tb c.natAbs) c.natAbs).toArray⟩
theorem al24 : Tryd.prog.arrayLen 102 = 24 := by simp [Program.arrayLen, Tryd.underlying102]
theorem sl1 (b nd : Nat) (h : nd ≤ 20) (W : World) : (Instr.sliceAt 102 (.pointer (some ⟨b, 0, none⟩)) (some (.int .i64 1)) (some (.int .i64 (1 + (nd : Int)))) none).run Tryd.prog W = .ok (.slice (some ⟨b, 1, none⟩) nd 23) W := by
  rw [run_sliceAt_array_lh W 102 ⟨b, 0, none⟩ (by simp [Program.arrayLen, Program.elem, Tryd.underlying102]) .i64 .i64 1 (1 + (nd : Int)) (by omega) (by omega) (by rw [al24]; omega)]
  go_simp
  omega
theorem sl0 (b nd : Nat) (h : nd ≤ 20) (W : World) : (Instr.sliceAt 102 (.pointer (some ⟨b, 0, none⟩)) none (some (.int .i64 (1 + (nd : Int)))) none).run Tryd.prog W = .ok (.slice (some ⟨b, 0, none⟩) (nd + 1) 24) W := by
  rw [run_sliceAt_array_h W 102 ⟨b, 0, none⟩ (by simp [Program.arrayLen, Program.elem, Tryd.underlying102]) .i64 (1 + (nd : Int)) (by omega) (by rw [al24]; omega)]
  go_simp
  omega
theorem fD_len : ∀ (n : Nat) (nd v : Nat), nd ≤ n → (fD nd v).length = nd := by
  have hg : ∀ n w, (gD n w).length = n := by
    intro n
    induction n using Nat.strongRecOn with
    | ind n ih =>
      intro w
      match n, ih with
      | 0, _ => rfl
      | 1, _ => rfl
      | n + 2, ih => simp [gD, ih n (by omega), two]
  intro n
  induction n using Nat.strongRecOn with
  | ind n ih =>
    intro nd v h
    by_cases h8 : 8 ≤ nd
    · obtain ⟨m, rfl⟩ : ∃ m, nd = m + 8 := ⟨nd - 8, by omega⟩
      rw [fD_8]
      simp [two, ih m (by omega) m _ (Nat.le_refl _)]
    · rw [fD_7 _ (by omega), hg]
theorem str_of_row (b : Nat) (l : List UInt8) (cap : Nat) (W : World) (h : Rw W b l) : (convert 106 9 (.slice (some ⟨b, 1, none⟩) l.length cap)).run Tryd.prog W = .ok (.string ⟨l.toArray⟩) W :=
  run_convert_bytes_back W _ _ 5 ⟨b, 1, none⟩ cap l Tryd.underlying106 Tryd.underlying5 Tryd.underlying9 (fun j hj => by
    rw [Addr.add_lit, (h j hj).1]
    simp [List.getD, hj])
theorem str_of_row0 (b : Nat) (l : List UInt8) (cap : Nat) (W : World) (h : Rw W b l) (h0 : W.cell? ⟨b, 0, none⟩ = some (.int .u8 45)) : (convert 106 9 (.slice (some ⟨b, 0, none⟩) (l.length + 1) cap)).run Tryd.prog W = .ok (.string ⟨(45 :: l).toArray⟩) W :=
  run_convert_bytes_back W _ _ 5 ⟨b, 0, none⟩ cap (45 :: l) Tryd.underlying106 Tryd.underlying5 Tryd.underlying9 (fun j hj => by
    rw [Addr.add_lit, Nat.zero_add]
    match j, hj with
    | 0, _ => exact h0
    | j + 1, hj =>
      have hj' : j < l.length := by simpa using hj
      have := (h j hj').1
      rw [Nat.add_comm] at this
      rw [this]
      simp [List.getD, hj'])
theorem rw_new (b nd : Nat) (W : World) (h : nd ≤ 20) (hc : ∀ j, j < 24 → W.cell? ⟨b, j, none⟩ = some (.int .u8 0) ∧ W.frozen? ⟨b, j, none⟩ = false) : Rw W b (List.replicate nd 0) := by
  intro j hj
  have hj' : j < nd := by simpa using hj
  have := hc (1 + j) (by omega)
  refine ⟨?_, this.2⟩
  rw [this.1]
  simp [List.getD, hj']

theorem zero24 (w w0 : World) (h : w.alloc (.cells #[.int .u8 0, .int .u8 0, .int .u8 0, .int .u8 0, .int .u8 0, .int .u8 0, .int .u8 0, .int .u8 0, .int .u8 0, .int .u8 0, .int .u8 0, .int .u8 0, .int .u8 0, .int .u8 0, .int .u8 0, .int .u8 0, .int .u8 0, .int .u8 0, .int .u8 0, .int .u8 0, .int .u8 0, .int .u8 0, .int .u8 0, .int .u8 0] 102) = w0) :
    ∀ j, j < 24 → w0.cell? ⟨w.heap.size, j, none⟩ = some (.int .u8 0) ∧ w0.frozen? ⟨w.heap.size, j, none⟩ = false := by
  have hh : w0.heap[w.heap.size]? = some (.cells (Array.replicate 24 (.int .u8 0)) 102 (0, 0)) := by
    rw [← h]; exact Array.getElem?_push_size
  intro j hj
  refine ⟨?_, by simp [World.frozen?, hh]⟩
  simp [World.cell?, hh, hj]
set_option maxHeartbeats 4000000 in
theorem formatInt_small (tb : Nat → Int) (c : Int) (w : World) (h0 : 0 ≤ c) (h1 : c < 100) :
    Calls Tryd.prog 50 #[.int .i64 c, .int .i64 10] w fun e w' => e = .returned (.string (txt tb c)) ∧ Below w.heap.size w w' := by
  obtain ⟨i, rfl⟩ : ∃ i : Nat, c = i := ⟨c.toNat, by omega⟩
  have ht : txt tb (i : Int) = ⟨(Lib.decDigits i).toArray⟩ := by rw [txt, if_pos ⟨h0, h1⟩, Int.toNat_natCast]
  rw [ht]
  clear ht
  go_enter Tryd.func50, Tryd.ntmps50
  go_wp2_with fail
  refine (Tryd.internal_strconv_small i (by omega) _).mono ?_
  rintro e w' ⟨rfl, rfl⟩
  go_wp2
  go_ret
  exact ⟨rfl, Below.refl _ _⟩
set_option maxHeartbeats 4000000 in
theorem formatInt_neg (tb : Nat → Int) (u : Nat) (w : World) (h1 : 1 ≤ u) (h2 : u ≤ 9223372036854775808) (ht : TabP w tb) :
    Calls Tryd.prog 50 #[.int .i64 (-(u : Int)), .int .i64 10] w fun e w' => e = .returned (.string (txt tb (-(u : Int)))) ∧ Below w.heap.size w w' := by
  have hx : txt tb (-(u : Int)) = ⟨(45 :: fD (ndN tb u) u).toArray⟩ := by
    rw [txt, if_neg (by omega), if_pos (by omega), Int.natAbs_neg, Int.natAbs_natCast]
  rw [hx]
  have HT := Lib.hid ht
  obtain ⟨nd, hnd⟩ : ∃ nd, nd = ndN tb u := ⟨_, rfl⟩
  have hnl : nd ≤ 20 := by rw [hnd]; exact ndN_le tb u
  rw [← hnd]
  have HND := Lib.hid hnd
  have hwr : IntKind.u64.wrap (-IntKind.u64.wrap (-(u : Int))) = (u : Int) := by rw [IntKind.wrap_u64, IntKind.wrap_u64]; omega
  have hs1 := sl1 w.heap.size nd hnl
  have hs0 := sl0 w.heap.size nd hnl
  clear hx ht hnd
  go_enter Tryd.func50, Tryd.ntmps50
  go_wp2_with fail
  obtain ⟨w0, hw0⟩ : ∃ w0, w.alloc (.cells #[.int .u8 0, .int .u8 0, .int .u8 0, .int .u8 0, .int .u8 0, .int .u8 0, .int .u8 0, .int .u8 0, .int .u8 0, .int .u8 0, .int .u8 0, .int .u8 0, .int .u8 0, .int .u8 0, .int .u8 0, .int .u8 0, .int .u8 0, .int .u8 0, .int .u8 0, .int .u8 0, .int .u8 0, .int .u8 0, .int .u8 0, .int .u8 0] 102) = w0 := ⟨_, rfl⟩
  rw [hw0]
  have HB0 := Lib.hid (show Below w.heap.size w w0 by rw [← hw0]; exact (Below.refl _ w).alloc (Nat.le_refl _) _)
  have h24 : ∀ j, j < 24 → w0.cell? ⟨w.heap.size, j, none⟩ = some (.int .u8 0) ∧ w0.frozen? ⟨w.heap.size, j, none⟩ = false := zero24 w w0 hw0
  have HZ := Lib.hid h24
  clear hw0 h24
  refine (numDigits_any tb u _ (by omega) (HT.out.below HB0.out)).mono ?_
  rintro e w1 ⟨rfl, rfl⟩
  rw [← HND.out]
  go_wp2_with fail
  refine (fmt_any w.heap.size nd u (List.replicate nd 0) _ (rw_new _ _ _ hnl HZ.out) (by simp) hnl (by omega) 23).mono ?_
  rintro e w2 ⟨rfl, hrw, hkp⟩
  have z0 := hkp.c0.trans (HZ.out 0 (by omega)).1
  have f0 := hkp.f0.trans (HZ.out 0 (by omega)).2
  have hlen := fD_len nd nd u (Nat.le_refl _)
  have hrw2 : Rw (w2.setCell ⟨w.heap.size, 0, none⟩ (.int .u8 45)) w.heap.size (fD nd u) := fun j hj => ⟨by
    rw [World.cell?_setCell_other _ _ _ _ (fun e => by have := congrArg Addr.off e; simp only at this; omega)]
    exact (hrw j hj).1, by rw [World.frozen?_setCell]; exact (hrw j hj).2⟩
  have hcv := str_of_row0 w.heap.size (fD nd u) 24 (w2.setCell ⟨w.heap.size, 0, none⟩ (.int .u8 45)) hrw2 (World.cell?_setCell_same _ _ _ z0)
  rw [hlen] at hcv
  have HB2 := Lib.hid ((HB0.out.trans hkp.bel).setCell (p := ⟨w.heap.size, 0, none⟩) (Nat.le_refl _) (.int .u8 45))
  clear hrw hkp hrw2 hlen
  go_wp2
  go_ret
  exact ⟨rfl, HB2.out⟩
set_option maxHeartbeats 4000000 in
theorem formatInt_pos (tb : Nat → Int) (u : Nat) (w : World) (h1 : 100 ≤ u) (h2 : u ≤ 9223372036854775807) (ht : TabP w tb) :
    Calls Tryd.prog 50 #[.int .i64 u, .int .i64 10] w fun e w' => e = .returned (.string (txt tb u)) ∧ Below w.heap.size w w' := by
  have hx : txt tb (u : Int) = ⟨(fD (ndN tb u) u).toArray⟩ := by
    rw [txt, if_neg (by omega), if_neg (by omega), Int.natAbs_natCast]
  rw [hx]
  have HT := Lib.hid ht
  obtain ⟨nd, hnd⟩ : ∃ nd, nd = ndN tb u := ⟨_, rfl⟩
  have hnl : nd ≤ 20 := by rw [hnd]; exact ndN_le tb u
  rw [← hnd]
  have HND := Lib.hid hnd
  have hwr : IntKind.u64.wrap (u : Int) = (u : Int) := by rw [IntKind.wrap_u64]; omega
  have hs1 := sl1 w.heap.size nd hnl
  clear hx ht hnd
  go_enter Tryd.func50, Tryd.ntmps50
  go_wp2_with fail
  obtain ⟨w0, hw0⟩ : ∃ w0, w.alloc (.cells #[.int .u8 0, .int .u8 0, .int .u8 0, .int .u8 0, .int .u8 0, .int .u8 0, .int .u8 0, .int .u8 0, .int .u8 0, .int .u8 0, .int .u8 0, .int .u8 0, .int .u8 0, .int .u8 0, .int .u8 0, .int .u8 0, .int .u8 0, .int .u8 0, .int .u8 0, .int .u8 0, .int .u8 0, .int .u8 0, .int .u8 0, .int .u8 0] 102) = w0 := ⟨_, rfl⟩
  rw [hw0]
  have HB0 := Lib.hid (show Below w.heap.size w w0 by rw [← hw0]; exact (Below.refl _ w).alloc (Nat.le_refl _) _)
  have h24 : ∀ j, j < 24 → w0.cell? ⟨w.heap.size, j, none⟩ = some (.int .u8 0) ∧ w0.frozen? ⟨w.heap.size, j, none⟩ = false := zero24 w w0 hw0
  have HZ := Lib.hid h24
  clear hw0 h24
  refine (numDigits_any tb u _ (by omega) (HT.out.below HB0.out)).mono ?_
  rintro e w1 ⟨rfl, rfl⟩
  rw [← HND.out]
  go_wp2_with fail
  refine (fmt_any w.heap.size nd u (List.replicate nd 0) _ (rw_new _ _ _ hnl HZ.out) (by simp) hnl (by omega) 23).mono ?_
  rintro e w2 ⟨rfl, hrw, hkp⟩
  have z0 := hkp.c0.trans (HZ.out 0 (by omega)).1
  have f0 := hkp.f0.trans (HZ.out 0 (by omega)).2
  have hlen := fD_len nd nd u (Nat.le_refl _)
  have hcv := str_of_row w.heap.size (fD nd u) 23 w2 hrw
  rw [hlen] at hcv
  have HB2 := Lib.hid (HB0.out.trans hkp.bel)
  clear hrw hkp hlen
  go_wp2
  go_ret
  exact ⟨rfl, HB2.out⟩
theorem itoa_any (tb : Nat → Int) (c : Int) (w : World) (h0 : -9223372036854775808 ≤ c) (h1 : c ≤ 9223372036854775807) (ht : TabP w tb) : Calls Tryd.prog 48 #[.int .i64 c] w fun e w' => e = .returned (.string (txt tb c)) ∧ Below w.heap.size w w' := by
  have hf : Calls Tryd.prog 50 #[.int .i64 c, .int .i64 10] w fun e w' => e = .returned (.string (txt tb c)) ∧ Below w.heap.size w w' := by
    by_cases hs : 0 ≤ c ∧ c < 100
    · exact formatInt_small tb c w hs.1 hs.2
    · by_cases hn : c < 0
      · obtain ⟨u, rfl⟩ : ∃ u : Nat, c = -(u : Int) := ⟨c.natAbs, by omega⟩
        exact formatInt_neg tb u w (by omega) (by omega) ht
      · obtain ⟨u, rfl⟩ : ∃ u : Nat, c = (u : Int) := ⟨c.toNat, by omega⟩
        exact formatInt_pos tb u w (by omega) (by omega) ht
  have HFF := Lib.hid hf
  generalize txt tb c = T at *
  clear hf
  have hi : Calls Tryd.prog 49 #[.int .i64 c] w fun e w' => e = .returned (.string T) ∧ Below w.heap.size w w' := by
    go_enter Tryd.func49, Tryd.ntmps49
    go_wp2_with fail
    refine HFF.out.mono ?_
    rintro e w' ⟨rfl, hb⟩
    have HB := Lib.hid hb
    clear hb
    go_wp2
    go_ret
    exact ⟨rfl, HB.out⟩
  have HII := Lib.hid hi
  clear hi
  go_enter Tryd.func48, Tryd.ntmps48
  go_wp2_with fail
  refine HII.out.mono ?_
  rintro e w' ⟨rfl, hb⟩
  have HB := Lib.hid hb
  clear hb
  go_wp2
  go_ret
  exact ⟨rfl, HB.out⟩
end Go.Proofs.YtlaofaopajcfkaaDoor

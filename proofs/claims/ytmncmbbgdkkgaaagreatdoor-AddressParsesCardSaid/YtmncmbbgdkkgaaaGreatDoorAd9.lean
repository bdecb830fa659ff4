/- address.Host. -/
import Derived.Test.YtmncmbbgdkkgaaaGreatDoorAd8
namespace Go.Proofs.YtmncmbbgdkkgaaaGreatDoor
set_option maxRecDepth 100000
set_option linter.unusedVariables false
open Go.RowKit

def oddR (x : Nat) : Bool := decide ((x : Int) < 33) || decide (126 < (x : Int))
theorem hostP (x : Nat) (W : World) : Calls Tryz.prog 22 #[.int .i32 (x : Int)] W fun e w' => e = .returned (.bool (oddR x)) ∧ ∃ q, w' = W.drewN q := by
  unfold oddR
  cases h1 : decide ((x : Int) < 33) <;> cases h2 : decide (126 < (x : Int))
  all_goals
    go_enter Tryz.func22, Tryz.ntmps22
    go_wp2
    go_ret
    exact ⟨rfl, 0, rfl⟩
/-- whether a string holds a sign that no host's name holds -/
def oddS (s : ByteArray) : Bool := decide (0 ≤ Lib.idxFunc oddR true s)
theorem odd_any (s : ByteArray) (w : World) : Calls Tryz.prog 21 #[.string s, .func (.func 22) #[] #[]] w fun e w' => e = .returned (.bool (oddS s)) ∧ Below w.heap.size w w' :=
  Tryz.strings_ContainsFunc_runes 22 #[] (enters_of Tryz.func22 (by kernel_rfl) rfl) oddR s w (fun W x _ _ => hostP x W)
def hostB (s : ByteArray) : Bool := !oddS s && (decide (s.size ≠ 0) && decide (s.size ≤ 255))
theorem spare_alloc {W : World} {b cap : Nat} (h : ∀ j, j < cap → (W.cell? ⟨b, j, none⟩).isSome = true ∧ W.frozen? ⟨b, j, none⟩ = false) (hb : b < W.heap.size) (o : Obj) :
    ∀ j, j < cap → ((W.alloc o).cell? ⟨b, j, none⟩).isSome = true ∧ (W.alloc o).frozen? ⟨b, j, none⟩ = false := by
  intro j hj
  have e : (W.alloc o).heap[b]? = W.heap[b]? := ((Below.refl W.heap.size W).alloc (Nat.le_refl _) o).block b hb
  have := h j hj
  simp only [World.cell?, World.frozen?] at this ⊢
  rw [e]
  exact this
theorem ints_keep {k : IntKind} {W Z : World} {a : Option Addr} {n c : Nat} {zs : List Int} (h : Ints k W a n c zs) (hk : ∀ x, a = some x → Z.heap[x.block]? = W.heap[x.block]?) : Ints k Z a n c zs := by
  obtain ⟨h1, h2, h3, h4, h5⟩ := h
  refine ⟨h1, h2, h3, h4, fun hn => ?_⟩
  obtain ⟨b, off, ha, hlt, hc⟩ := h5 hn
  have e := hk _ ha
  refine ⟨b, off, ha, ?_, fun j v hv => ?_⟩
  · have h6 : W.heap[b]? = some W.heap[b] := by simp [hlt]
    rw [← e] at h6
    exact (Array.getElem?_eq_some_iff.1 h6).1
  · rw [← hc j v hv]
    simp only [World.cell?]
    rw [e]
theorem set3_other {W : World} {B k : Nat} {x0 x1 x2 : Value} (h : k ≠ B) : (((W.setCell ⟨B, 0, none⟩ x0).setCell ⟨B, 1, none⟩ x1).setCell ⟨B, 2, none⟩ x2).heap[k]? = W.heap[k]? := by
  rw [Below.heap_setCell _ _ _ _ h, Below.heap_setCell _ _ _ _ h, Below.heap_setCell _ _ _ _ h]
theorem empty_eq (s : ByteArray) : (s.toList == ([] : List UInt8)) = decide (s.size = 0) := by
  rw [Lib.toList_data, Bool.eq_iff_iff, decide_eq_true_iff, beq_iff_eq]
  show s.data.toList = [] ↔ s.data.size = 0
  rw [← Array.length_toList]
  exact List.length_eq_zero_iff.symm
set_option maxHeartbeats 4000000 in
theorem host_no (s : ByteArray) (w : World) (hb : hostB s = false) :
    Calls Tryz.prog 8 #[.string s] w fun e w' => e = .returned (.tuple #[zeroNode, .bool false]) ∧ Below w.heap.size w w' := by
  have he := empty_eq s
  have HB0 := Lib.hid ((Below.refl _ w).alloc (Nat.le_refl _) (.cells #[.int .u16 0, .slice none 0 0, .slice none 0 0] 26))
  have HN0 := Lib.hid (NdB.new w (.int .u16 0) (.slice none 0 0) (.slice none 0 0))
  go_enter Tryz.func8, Tryz.ntmps8
  go_wp2_with fail
  refine (odd_any s _).mono ?_
  rintro e w1 ⟨rfl, hb1⟩
  have HW := Lib.hid (HB0.out.trans (hb1.mono HB0.out.size))
  have HN := Lib.hid (HN0.out.below hb1 (by simp))
  obtain ⟨q0, q1, q2⟩ := HN.out.cell
  have f0 := HN.out.free 0
  have f1 := HN.out.free 1
  have f2 := HN.out.free 2
  clear hb1
  unfold hostB at hb
  cases ho : oddS s with
  | true =>
    clear hb ho he
    go_wp2
    obtain ⟨Z, hZ, hnd, hbz, hoz⟩ := set3 (x0 := .int .u16 0) (x1 := .slice none 0 0) (x2 := .slice none 0 0) HN.out
    rw [hZ]
    refine bodyPost_ret (v := .tuple #[zeroNode, .bool false]) ?_ rfl ?_
    · rw [results_cellb rfl, show zeroNode = .agg #[.int .u16 0, .slice none 0 0, .slice none 0 0] from rfl]
      simp [asAddr, Result.andThen, hnd.load]
    · exact ⟨rfl, HW.out.trans hbz⟩
  | false =>
    rw [ho] at hb
    by_cases h0 : s.size = 0
    · have he' : (s.toList == ([] : List UInt8)) = true := by rw [he]; simpa using h0
      clear hb ho he h0
      go_wp2
      obtain ⟨Z, hZ, hnd, hbz, hoz⟩ := set3 (x0 := .int .u16 0) (x1 := .slice none 0 0) (x2 := .slice none 0 0) HN.out
      rw [hZ]
      refine bodyPost_ret (v := .tuple #[zeroNode, .bool false]) ?_ rfl ?_
      · rw [results_cellb rfl, show zeroNode = .agg #[.int .u16 0, .slice none 0 0, .slice none 0 0] from rfl]
        simp [asAddr, Result.andThen, hnd.load]
      · exact ⟨rfl, HW.out.trans hbz⟩
    · have he' : (s.toList == ([] : List UInt8)) = false := by rw [he]; simpa using h0
      have hl : decide ((255 : Int) < (s.size : Int)) = true := by simp [h0] at hb; simp; omega
      clear hb ho he h0
      go_wp2
      obtain ⟨Z, hZ, hnd, hbz, hoz⟩ := set3 (x0 := .int .u16 0) (x1 := .slice none 0 0) (x2 := .slice none 0 0) HN.out
      rw [hZ]
      refine bodyPost_ret (v := .tuple #[zeroNode, .bool false]) ?_ rfl ?_
      · rw [results_cellb rfl, show zeroNode = .agg #[.int .u16 0, .slice none 0 0, .slice none 0 0] from rfl]
        simp [asAddr, Result.andThen, hnd.load]
      · exact ⟨rfl, HW.out.trans hbz⟩
set_option maxHeartbeats 4000000 in
theorem host_yes (s : ByteArray) (w : World) (hb : hostB s = true) :
    Calls Tryz.prog 8 #[.string s] w fun e w' => ∃ a' c', e = .returned (.tuple #[ndV 11 a' (s.size + 1) c' none 0 0, .bool true]) ∧ Ints .u8 w' a' (s.size + 1) c' (numsB s ++ [0]) ∧ Below w.heap.size w w' := by
  obtain ⟨i0, hi, hz0, hz1, hz2⟩ := info_parts info_u8
  simp only [hostB, Bool.and_eq_true, Bool.not_eq_true', decide_eq_true_eq] at hb
  obtain ⟨ho, h0, h255⟩ := hb
  have he' : (s.toList == ([] : List UInt8)) = false := by rw [empty_eq]; simpa using h0
  have hl : decide ((255 : Int) < (s.size : Int)) = false := by simp; omega
  have HB0 := Lib.hid ((Below.refl _ w).alloc (Nat.le_refl _) (.cells #[.int .u16 0, .slice none 0 0, .slice none 0 0] 26))
  have HN0 := Lib.hid (NdB.new w (.int .u16 0) (.slice none 0 0) (.slice none 0 0))
  clear h0
  go_enter Tryz.func8, Tryz.ntmps8
  go_wp2_with fail
  refine (odd_any s _).mono ?_
  rintro e w1 ⟨rfl, hb1⟩
  rw [ho]
  have HW := Lib.hid (HB0.out.trans (hb1.mono HB0.out.size))
  have HN := Lib.hid (HN0.out.below hb1 (by simp))
  have hlt1 : w.heap.size < w1.heap.size := HN.out.lt
  have hcv := Lib.run_convert_string_bytes (P := Tryz.prog) w1 9 23 5 s Tryz.underlying9 Tryz.underlying23 Tryz.underlying5
  have hge := grownCap_ge w1 s.size 0 5
  have hcm := grownCap_le_maxLen w1 s.size 0 5 (by unfold maxLen; omega)
  have HSP := Lib.hid (bw_spare w1 s)
  have HCL := Lib.hid (bw_cell w1 s)
  obtain ⟨W2, hW2⟩ : ∃ W2, Lib.bytesWorld w1 5 s = W2 := ⟨_, rfl⟩
  have HB2 := Lib.hid (show Below w1.heap.size w1 W2 by rw [← hW2]; exact ⟨rfl, rfl, rfl, by rw [Lib.bytesWorld_size]; omega, fun k hk => Lib.bytesWorld_at_old w1 _ s k hk⟩)
  have hs2 : W2.heap.size = w1.heap.size + 1 := by rw [← hW2, Lib.bytesWorld_size]
  rw [hW2] at hcv HSP HCL
  obtain ⟨cap, hcap⟩ : ∃ cap, grownCap w1 s.size 0 5 = cap := ⟨_, rfl⟩
  rw [hcap] at hcv HSP hge hcm
  clear hb1 ho hW2 hcap
  go_wp2_with (at_builtin; refine append_one _ rfl _ _ 23 rfl 5 i0 Tryz.underlying23 hi hz0 hz1 hz2 w1.heap.size s.size cap (numsB s) rfl (numsB_length s) (fun j u hu => cell_below ((Below.refl W2.heap.size W2).alloc (Nat.le_refl _) _) (HCL.out j u hu)) (w1.heap.size + 1) 1 0 rfl (by rw [← hs2]; simp) (spare_alloc HSP.out (by omega) _) hge hcm (by simp; omega) (by omega) w1.heap.size (Nat.le_refl _) ?_; intro a' c' w3 hi3 hb3 hge3; have HB3 := Lib.hid ((HB2.out.alloc HB2.out.size (.cells #[.int .u8 0] 5)).trans hb3.out); have HN3 := Lib.hid (HN.out.below HB3.out hlt1); have HW3 := Lib.hid (HW.out.trans (HB3.out.mono (Nat.le_of_lt hlt1))); have HI3 := Lib.hid hi3.out; have q := HN3.out.cell; obtain ⟨q0, q1, q2⟩ := q; have f0 := HN3.out.free 0; have f1 := HN3.out.free 1; have f2 := HN3.out.free 2; clear hb3 hi3 hcv)
  obtain ⟨Z, hZ, hnd, hbz, hoz⟩ := set3 (x0 := .int .u16 11) (x1 := .slice a' (s.size + 1) c') (x2 := .slice none 0 0) HN3.out
  rw [hZ]
  refine bodyPost_ret (v := .tuple #[ndV 11 a' (s.size + 1) c' none 0 0, .bool true]) ?_ rfl ?_
  · rw [results_cellb rfl]
    simp [asAddr, Result.andThen, hnd.load, ndV]
  · exact ⟨a', c', rfl, ints_keep HI3.out (fun x hx => by have h1 := hge3.out x hx; rw [← hZ, set3_other (by omega)]), HW3.out.trans hbz⟩
end Go.Proofs.YtmncmbbgdkkgaaaGreatDoor

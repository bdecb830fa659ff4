/- strconv.FormatUint at base 16. -/
import Derived.Test.YtmncmbbgdkkgaaaGreatDoorAd24
import Derived.Laws.BitsAllLaws
namespace Go.Proofs.YtmncmbbgdkkgaaaGreatDoor
set_option maxRecDepth 100000
set_option linter.unusedVariables false
set_option linter.unusedSimpArgs false
open Go.RowKit

/-- the place of the table of trailing zeros that 16 comes to -/
def Tz (w : World) : Prop := w.cell? ⟨7, 15, none⟩ = some (.int .u8 4)
theorem Tz.below {w w' : World} (h : Tz w) (hb : Below w.heap.size w w') : Tz w' := cell_below hb h
theorem tz64 (w : World) (h : Tz w) : Calls Tryz.prog 118 #[.int .u64 16] w fun e w' => e = .returned (.int .i64 4) ∧ w' = w := by
  have h0 : IntKind.u64.wrap (-16) = 18446744073709551600 := by kernel_rfl
  have h1 : bits .and .u64 16 18446744073709551600 = 16 := by kernel_rfl
  have h2 : IntKind.u64.wrap 4573923408821661840 = 4573923408821661840 := by kernel_rfl
  unfold Tz at h
  go_enter Tryz.func118, Tryz.ntmps118
  go_wp2
  go_ret
  exact ⟨rfl, rfl⟩
theorem tz16 (w : World) (h : Tz w) : Calls Tryz.prog 104 #[.int .u64 16] w fun e w' => e = .returned (.int .i64 4) ∧ w' = w := by
  go_enter Tryz.func104, Tryz.ntmps104
  go_wp2_with (go_at_call 118; refine (tz64 _ h).mono ?_; rintro e w' ⟨rfl, rfl⟩)
  go_ret
  exact ⟨rfl, rfl⟩
theorem two16 (w : World) : Calls Tryz.prog 103 #[.int .i64 16] w fun e w' => e = .returned (.bool true) ∧ w' = w := by
  have h1 : bits .and .i64 16 15 = 0 := by kernel_rfl
  go_enter Tryz.func103, Tryz.ntmps103
  go_wp2
  go_ret
  exact ⟨rfl, rfl⟩
/-- a hexadecimal digit -/
def hexd (d : Nat) : UInt8 := UInt8.ofNat (if d < 10 then 48 + d else 87 + d)
theorem hexd_nat {d : Nat} (h : d < 16) : (hexd d).toNat = if d < 10 then 48 + d else 87 + d := by
  unfold hexd
  rw [UInt8.toNat_ofNat']
  split <;> omega
def hxF : Nat → Nat → List UInt8 → List UInt8
  | 0, q, L => hexd q :: L
  | f + 1, q, L => if q < 16 then hexd q :: L else hxF f (q / 16) (hexd (q % 16) :: L)
/-- the hexadecimal digits of a number of 16 bits -/
def hexDigits (u : Nat) : List UInt8 := hxF 3 u []
theorem digs_get (d : Nat) (h : d < (⟨#[48, 49, 50, 51, 52, 53, 54, 55, 56, 57, 97, 98, 99, 100, 101, 102, 103, 104, 105, 106, 107, 108, 109, 110, 111, 112, 113, 114, 115, 116, 117, 118, 119, 120, 121, 122]⟩ : ByteArray).size) (hd : d < 16) : (⟨#[48, 49, 50, 51, 52, 53, 54, 55, 56, 57, 97, 98, 99, 100, 101, 102, 103, 104, 105, 106, 107, 108, 109, 110, 111, 112, 113, 114, 115, 116, 117, 118, 119, 120, 121, 122]⟩ : ByteArray)[d]'h = hexd d := by
  obtain rfl | rfl | rfl | rfl | rfl | rfl | rfl | rfl | rfl | rfl | rfl | rfl | rfl | rfl | rfl | rfl : d = 0 ∨ d = 1 ∨ d = 2 ∨ d = 3 ∨ d = 4 ∨ d = 5 ∨ d = 6 ∨ d = 7 ∨ d = 8 ∨ d = 9 ∨ d = 10 ∨ d = 11 ∨ d = 12 ∨ d = 13 ∨ d = 14 ∨ d = 15 := by omega
  all_goals rfl
/-- the row of 65 bytes whose last are L -/
def Row65 (W : World) (B : Nat) (L : List UInt8) : Prop := ∃ cur : Array Value, W.heap[B]? = some (.cells cur 135 (0, 0)) ∧ cur.size = 65 ∧ L.length ≤ 65 ∧ ∀ k, k < L.length → cur[65 - L.length + k]? = some (.int .u8 ((L.getD k 0).toNat : Int))
theorem Row65.cell {W : World} {B : Nat} {L : List UInt8} (h : Row65 W B L) (o : Nat) (ho : o < 65) : (∃ v, W.cell? ⟨B, o, none⟩ = some v) ∧ W.frozen? ⟨B, o, none⟩ = false := by
  obtain ⟨cur, hh, hs, _⟩ := h
  exact ⟨⟨cur[o], by simp [World.cell?, hh, hs, ho]⟩, by simp [World.frozen?, hh]⟩
theorem Row65.push {W : World} {B : Nat} {L : List UInt8} (h : Row65 W B L) (c : UInt8) (hl : L.length < 65) (o : Nat) (ho : o = 64 - L.length) : Row65 (W.setCell ⟨B, o, none⟩ (.int .u8 (c.toNat : Int))) B (c :: L) := by
  obtain ⟨cur, hh, hs, hL, hc⟩ := h
  subst ho
  refine ⟨cur.set (64 - L.length) (.int .u8 (c.toNat : Int)) (by omega), ?_, by simpa using hs, by simp; omega, fun k hk => ?_⟩
  · simp [World.setCell, Array.getElem?_modify, hh, Array.setIfInBounds, hs, show 64 - L.length < 65 by omega]
  · rw [List.length_cons] at hk ⊢
    cases k with
    | zero => simp [show 65 - (L.length + 1) = 64 - L.length by omega, hs]
    | succ k =>
      have := hc k (by omega)
      rw [show 65 - (L.length + 1) + (k + 1) = 65 - L.length + k by omega, Array.getElem?_set_ne _ (by omega), this]
      simp
theorem hxF_step {j q : Nat} {L : List UInt8} (h : ¬ q < 16) (hj : j < 3) : hxF (3 - j) q L = hxF (3 - (j + 1)) (q / 16) (hexd (q % 16) :: L) := by
  rw [show 3 - j = (3 - (j + 1)) + 1 by omega, hxF, if_neg h]
theorem hxF_end {j q : Nat} {L : List UInt8} (h : q < 16) : hxF j q L = hexd q :: L := by
  cases j with
  | zero => rfl
  | succ j => rw [hxF, if_pos h]
theorem al65 : Tryz.prog.arrayLen 135 = 65 := by simp [Program.arrayLen, Tryz.underlying135]
theorem slL (b l : Nat) (h1 : 1 ≤ l) (h : l ≤ 65) (W : World) : (Instr.sliceAt 135 (.pointer (some ⟨b, 0, none⟩)) (some (.int .i64 ((l : Int) - 1))) none none).run Tryz.prog W = .ok (.slice (some ⟨b, l - 1, none⟩) (65 - (l - 1)) (65 - (l - 1))) W := by
  rw [show ((l : Int) - 1) = ((l - 1 : Nat) : Int) by omega, run_sliceAt_array_l W 135 ⟨b, 0, none⟩ (by simp [Program.arrayLen, Program.elem, Tryz.underlying135]) .i64 ((l - 1 : Nat) : Int) (by omega) (by rw [al65]; omega)]
  go_simp
  omega
set_option maxHeartbeats 8000000 in
theorem fbits16 (u : Nat) (hu : u ≤ 65535) (w : World) (hz : Tz w) :
    Calls Tryz.prog 76 #[.slice none 0 0, .int .u64 u, .int .i64 16, .bool false, .bool false] w fun e w' => e = .returned (.tuple #[.slice none 0 0, .string ⟨(hexDigits u).toArray⟩]) ∧ Below w.heap.size w w' := by
  obtain ⟨W0, hW0⟩ : ∃ W0, w.alloc (.cells Tryz.zeroCells135 135) = W0 := ⟨_, rfl⟩
  have hb0 : Below w.heap.size w W0 := by rw [← hW0]; exact (Below.refl _ w).alloc (Nat.le_refl _) _
  have HZ := Lib.hid (hz.below hb0)
  have HB0 := Lib.hid hb0
  have HR0 := Lib.hid (show Row65 W0 w.heap.size [] by rw [← hW0]; exact ⟨Tryz.zeroCells135, World.alloc_heap_new w _, by kernel_rfl, by simp, fun k hk => by simp at hk⟩)
  clear hz hb0
  go_enter Tryz.func76, Tryz.ntmps76
  go_wp2_with (first | (go_at_call 103; refine (two16 _).mono ?_; rintro e w' ⟨rfl, rfl⟩) | (go_at_call 104; refine (tz16 _ HZ.out).mono ?_; rintro e w' ⟨rfl, rfl⟩))
  go_loopw [1, 13] (fun x i wr => ∃ (q j : Nat) (L : List UInt8), x = .int .u64 q ∧ i = .int .i64 ((65 - j : Nat) : Int) ∧ L.length = j ∧ ((j = 0 ∧ q < 65536) ∨ (j = 1 ∧ q < 4096) ∨ (j = 2 ∧ q < 256) ∨ (j = 3 ∧ q < 16)) ∧ hxF (3 - j) q L = hexDigits u ∧ Row65 wr w.heap.size L ∧ Below w.heap.size w wr) (fun x _ _ => (intOf x).toNat)
  case atStart => exact ⟨u, 0, [], rfl, rfl, rfl, .inl ⟨rfl, by omega⟩, rfl, HR0.out, HB0.out⟩
  case round =>
    obtain ⟨q, j, L, rfl, rfl, hl, hjq, hhx, hrow, hbl⟩ := hrel
    have HROW := Lib.hid hrow
    have HBL := Lib.hid hbl
    have HHX := Lib.hid hhx
    have hj3 : j ≤ 3 := by omega
    have hq : q < 65536 := by omega
    clear hrow hbl hhx
    by_cases h16 : q < 16
    · obtain ⟨⟨v0, hc0⟩, hf0⟩ := HROW.out.cell (65 - j - 1) (by omega)
      go_wp2_with fail
      rw [digs_get _ _ h16]
      have hN : Row65 (wr.setCell ⟨w.heap.size, 65 - j - 1, none⟩ (.int .u8 ((hexd q).toNat : Int))) w.heap.size (hexd q :: L) := HROW.out.push _ (by omega) _ (by omega)
      have hNB : Below w.heap.size w (wr.setCell ⟨w.heap.size, 65 - j - 1, none⟩ (.int .u8 ((hexd q).toNat : Int))) := HBL.out.setCell (p := ⟨w.heap.size, _, none⟩) (Nat.le_refl _) _
      have hd : hexd q :: L = hexDigits u := by rw [← hxF_end (j := 3 - j) h16]; exact HHX.out
      rw [hd] at hN
      obtain ⟨Z, hZ⟩ : ∃ Z, wr.setCell ⟨w.heap.size, 65 - j - 1, none⟩ (.int .u8 ((hexd q).toNat : Int)) = Z := ⟨_, rfl⟩
      rw [hZ] at hN hNB ⊢
      have hdl : (hexDigits u).length = j + 1 := by rw [← hd, List.length_cons, hl]
      have hsl := slL w.heap.size (65 - j) (by omega) (by omega) Z
      have hcv : (convert 23 9 (.slice (some ⟨w.heap.size, 65 - j - 1, none⟩) (65 - (65 - j - 1)) (65 - (65 - j - 1)))).run Tryz.prog Z = .ok (.string ⟨(hexDigits u).toArray⟩) Z := by
        have h := run_convert_bytes_back (P := Tryz.prog) Z 23 9 5 ⟨w.heap.size, 65 - j - 1, none⟩ (j + 1) (hexDigits u) Tryz.underlying23 Tryz.underlying5 Tryz.underlying9 (fun i hi => by
          obtain ⟨cur, hh, hs, _, hc⟩ := hN
          have := hc i hi
          rw [Addr.add_lit]
          rw [hdl] at this
          simp only [World.cell?, hh]
          rw [show 65 - j - 1 + i = 65 - (j + 1) + i by omega, this]
          simp [List.getD, hi])
        rw [hdl] at h
        rw [show 65 - (65 - j - 1) = j + 1 by omega]
        exact h
      have HNB := Lib.hid hNB
      clear hZ hN hNB hd hc0 hf0 HROW HBL HHX HZ HB0 HR0 hW0
      rw [hsl]
      go_wp2
      go_ret2
      exact ⟨rfl, HNB.out⟩
    · have hj2 : j < 3 := by omega
      have hand : bits .and .u64 (q : Int) 15 = ((q % 16 : Nat) : Int) := by
        rw [show (15 : Int) = ((15 : Nat) : Int) from rfl, u64_and_nat q 15 (by omega) (by omega), show (15 : Nat) = 2 ^ 4 - 1 from rfl, Nat.and_two_pow_sub_one_eq_mod]
      obtain ⟨⟨v0, hc0⟩, hf0⟩ := HROW.out.cell (65 - j - 1) (by omega)
      go_wp2
      go_roundw
      case rel =>
        rw [digs_get _ _ (Nat.mod_lt _ (by omega))]
        exact ⟨q / 16, j + 1, hexd (q % 16) :: L, by go_num, by congr 1; omega, by simp [hl], by omega, by rw [← hxF_step h16 hj2]; exact HHX.out, HROW.out.push _ (by omega) _ (by omega), HBL.out.setCell (p := ⟨w.heap.size, _, none⟩) (Nat.le_refl _) _⟩
      case measure => simp [intOf]; omega
set_option maxHeartbeats 4000000 in
theorem fmtU16 (u : Nat) (w : World) (hu : u ≤ 65535) (hz : Tz w) :
    Calls Tryz.prog 35 #[.int .u64 u, .int .i64 16] w fun e w' => e = .returned (.string ⟨(hexDigits u).toArray⟩) ∧ Below w.heap.size w w' := by
  have hi : Calls Tryz.prog 51 #[.int .u64 u, .int .i64 16] w fun e w' => e = .returned (.string ⟨(hexDigits u).toArray⟩) ∧ Below w.heap.size w w' := by
    have HF := Lib.hid (fbits16 u hu w hz)
    clear hz
    go_enter Tryz.func51, Tryz.ntmps51
    go_wp2_with fail
    refine HF.out.mono ?_
    rintro e w' ⟨rfl, hb⟩
    have HB := Lib.hid hb
    clear hb
    go_wp2
    go_ret
    exact ⟨rfl, HB.out⟩
  have HI := Lib.hid hi
  clear hi hz
  go_enter Tryz.func35, Tryz.ntmps35
  go_wp2_with fail
  refine HI.out.mono ?_
  rintro e w' ⟨rfl, hb⟩
  have HB := Lib.hid hb
  clear hb
  go_wp2
  go_ret
  exact ⟨rfl, HB.out⟩
end Go.Proofs.YtmncmbbgdkkgaaaGreatDoor

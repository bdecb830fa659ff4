/- internal/strconv.formatBase10, at any number of digits. -/
import Derived.Test.YtlaofaopajcfkaaDoorErr17
import Derived.Lib.Walk
import Derived.Lib.ItoaWalk
import Derived.Lib.ItoaMem
import Derived.BigCall
import Derived.BigGuard
import Derived.BigRegion
namespace Go.Proofs.YtlaofaopajcfkaaDoor
set_option maxRecDepth 100000
set_option linter.unusedVariables false
open Go.RowKit

/-- a row of bytes in a block, from its cell 1 on -/
def Rw (W : World) (blk : Nat) (zs : List UInt8) : Prop := ∀ j, j < zs.length → W.cell? ⟨blk, 1 + j, none⟩ = some (.int .u8 ((zs.getD j 0).toNat : Int)) ∧ W.frozen? ⟨blk, 1 + j, none⟩ = false
theorem Rw.drew {W : World} {blk : Nat} {zs : List UInt8} (h : Rw W blk zs) : Rw W.drew blk zs := h
theorem Rw.cells {W : World} {blk d : Nat} {zs : List UInt8} (h : Rw W blk zs) (hl : zs.length = d) : ∀ t, t < d → W.cell? ⟨blk, 1 + t, none⟩ = some (.int .u8 ((zs.getD t 0).toNat : Int)) := fun t ht => (h t (by omega)).1
theorem Rw.free {W : World} {blk d : Nat} {zs : List UInt8} (h : Rw W blk zs) (hl : zs.length = d) : ∀ t, t < d → W.frozen? ⟨blk, 1 + t, none⟩ = false := fun t ht => (h t (by omega)).2
theorem Rw.one {W : World} {blk : Nat} {zs : List UInt8} (h : Rw W blk zs) {i : Nat} (hi : i < zs.length) (y : UInt8) : Rw (W.setCell ⟨blk, 1 + i, none⟩ (.int .u8 (y.toNat : Int))) blk (zs.set i y) := by
  intro j hj
  have hj' : j < zs.length := by simpa using hj
  refine ⟨?_, by rw [World.frozen?_setCell]; exact (h j hj').2⟩
  by_cases e : i = j
  · subst e
    rw [World.cell?_setCell_same _ _ _ (h i hi).1]
    simp [List.getD, hi]
  · rw [World.cell?_setCell_other _ _ _ _ (fun e2 => e (by have := congrArg Addr.off e2; simp only at this; omega)), (h j hj').1]
    simp [List.getD, e]
theorem Rw.two {W : World} {blk : Nat} {zs : List UInt8} (h : Rw W blk zs) {i j : Nat} (hi : i < zs.length) (hj : j < zs.length) (hne : i ≠ j) (y x : UInt8) :
    Rw ((W.setCell ⟨blk, 1 + i, none⟩ (.int .u8 (y.toNat : Int))).setCell ⟨blk, 1 + j, none⟩ (.int .u8 (x.toNat : Int))) blk ((zs.set i y).set j x) := (h.one hi y).one (by simpa using hj) x
/-- what stays: the blocks below, and cell 0 -/
structure Kp (blk : Nat) (w w' : World) : Prop where
  bel : Below blk w w'
  c0 : w'.cell? ⟨blk, 0, none⟩ = w.cell? ⟨blk, 0, none⟩
  f0 : w'.frozen? ⟨blk, 0, none⟩ = w.frozen? ⟨blk, 0, none⟩
theorem Kp.refl (blk : Nat) (w : World) : Kp blk w w := ⟨Below.refl _ _, rfl, rfl⟩
theorem Kp.drew {blk : Nat} {w w' : World} (h : Kp blk w w') : Kp blk w w'.drew := ⟨h.bel.drew, h.c0, h.f0⟩
theorem Kp.one {blk : Nat} {w w' : World} (h : Kp blk w w') {i : Nat} (v : Value) (hi : 0 < i) : Kp blk w (w'.setCell ⟨blk, i, none⟩ v) :=
  ⟨h.bel.setCell (p := ⟨blk, i, none⟩) (Nat.le_refl _) _, (World.cell?_setCell_other _ _ _ _ (fun e => by have := congrArg Addr.off e; simp only at this; omega)).trans h.c0, by rw [World.frozen?_setCell]; exact h.f0⟩
theorem Kp.two {blk : Nat} {w w' : World} (h : Kp blk w w') {i j : Nat} (v u : Value) (hi : 0 < i) (hj : 0 < j) : Kp blk w ((w'.setCell ⟨blk, i, none⟩ v).setCell ⟨blk, j, none⟩ u) := (h.one v hi).one u hj

theorem rw_byte {W : World} {blk : Nat} {zs : List UInt8} {z : Int} {b : UInt8} (h : Rw (W.setCell ⟨blk, 1, none⟩ (.int .u8 (b.toNat : Int))) blk zs) (e : z = (b.toNat : Int)) : Rw (W.setCell ⟨blk, 1, none⟩ (.int .u8 z)) blk zs := by rw [e]; exact h
theorem set_zero : ∀ (zs : List UInt8) {b : UInt8}, 0 < zs.length → zs.set 0 b = b :: zs.drop 1
  | z :: zs, b, _ => rfl
def two (k : Nat) : List UInt8 := [Lib.sm (k * 2), Lib.sm (k * 2 + 1)]
theorem drop_two {zs : List UInt8} (m : Nat) (h : m + 1 < zs.length) (y x : UInt8) : ((zs.set (m + 1) y).set m x).drop m = [x, y] ++ zs.drop (m + 2) := by
  refine List.ext_getElem? (fun i => ?_)
  match i with
  | 0 => simp [List.getElem?_drop, List.getElem?_set]; omega
  | 1 => simp [List.getElem?_drop, List.getElem?_set]; omega
  | i + 2 =>
    simp only [List.getElem?_drop, List.cons_append, List.nil_append, List.getElem?_cons_succ]
    rw [List.getElem?_set_ne (by omega), List.getElem?_set_ne (by omega)]
    congr 1
    omega
/-- the digits of what is left below the last eight -/
def gD : Nat → Nat → List UInt8
  | 0, _ => []
  | 1, w => [UInt8.ofNat ((48 + w) % 256)]
  | n + 2, w => gD n (w / 100) ++ two (w % 100)
/-- what formatBase10 writes -/
def fD (nd v : Nat) : List UInt8 :=
  if h : 8 ≤ nd then fD (nd - 8) (v / 100 / 100 / 100 / 100) ++ (two (v / 100 / 100 / 100 % 100) ++ (two (v / 100 / 100 % 100) ++ (two (v / 100 % 100) ++ two (v % 100)))) else gD nd (v % 4294967296)
termination_by nd
theorem fD_8 (m v : Nat) : fD (m + 8) v = fD m (v / 100 / 100 / 100 / 100) ++ (two (v / 100 / 100 / 100 % 100) ++ (two (v / 100 / 100 % 100) ++ (two (v / 100 % 100) ++ two (v % 100)))) := by
  rw [fD, dif_pos (by omega), Nat.add_sub_cancel]
theorem fD_7 {nd : Nat} (v : Nat) (h : nd < 8) : fD nd v = gD nd (v % 4294967296) := by rw [fD, dif_neg (by omega)]

set_option maxHeartbeats 16000000 in
theorem fmt_any (blk d u : Nat) (zs : List UInt8) (w : World) (hR : Rw w blk zs) (hl : zs.length = d) (hd : d ≤ 20) (hu : u < 18446744073709551616) (cap : Nat) :
    Calls Tryd.prog 53 #[.slice (some ⟨blk, 1, none⟩) d cap, .int .u64 u] w fun e w' => e = .returned (.tuple #[]) ∧ Rw w' blk (fD d u) ∧ Kp blk w w' := by
  have HR := Lib.hid hR
  have HL := Lib.hid hl
  clear hR hl
  go_enter Tryd.func53, Tryd.ntmps53
  go_name_bytes SM hSM
  have eSM : SM = Lib.smalls := by rw [← hSM]; decide +kernel
  subst eSM
  clear hSM
  go_wp2
  go_loopw [1, 4] (fun vu vn wr => ∃ (nd v : Nat) (l : List UInt8), vu = .int .u64 v ∧ vn = .int .i64 nd ∧ nd ≤ d ∧ v < 18446744073709551616 ∧ Hid (l.length = d) ∧ Hid (fD nd v ++ l.drop nd = fD d u) ∧ Hid (Rw wr blk l) ∧ Hid (Kp blk w wr)) (fun _ vn _ => (intOf vn).toNat)
  case atStart => exact ⟨d, u, zs, rfl, rfl, Nat.le_refl _, hu, HL, Lib.hid (by rw [List.drop_of_length_le (by rw [HL.out]; exact Nat.le_refl _), List.append_nil]), HR, Lib.hid (Kp.refl _ _)⟩
  case round =>
    obtain ⟨nd, v, zs0, rfl, rfl, hnd, hv, HL0, HF0, HR0, HK0⟩ := hrel
    clear HR HL
    have hc := HR0.out.cells HL0.out
    have hf := HR0.out.free HL0.out
    obtain ⟨G, hG⟩ : ∃ G : Nat → Int, ∀ t, G t = ((zs0.getD t 0).toNat : Int) := ⟨_, fun _ => rfl⟩
    simp only [← hG] at hc
    clear hG
    by_cases h8 : 8 ≤ nd
    · obtain ⟨m, rfl⟩ : ∃ m, nd = m + 8 := ⟨nd - 8, by omega⟩
      go_wp2
      go_name_slot 9 x1 hx1
      have hxe1 : x1 = ((v % 100 * 2 : Nat) : Int) := by omega
      have hXa1 : ∀ w, (Instr.index 9 (.string Lib.smalls) (.int .u32 (x1 + 1))).run Tryd.prog w = .ok (.int .u8 ((Lib.sm (v % 100 * 2 + 1)).toNat : Int)) w := Lib.idx_smalls 9 Tryd.underlying9 .u32 _ _ (by omega) (by omega)
      have hXb1 : ∀ w, (Instr.index 9 (.string Lib.smalls) (.int .u32 x1)).run Tryd.prog w = .ok (.int .u8 ((Lib.sm (v % 100 * 2)).toNat : Int)) w := Lib.idx_smalls 9 Tryd.underlying9 .u32 _ _ (by omega) (by omega)
      have hlo1 : 0 ≤ x1 := by omega
      have hhi1 : x1 ≤ 198 := by omega
      clear hx1 hxe1
      go_region
      go_wp2
      go_name_world W1 hW1
      obtain ⟨zs1, hzs1⟩ : ∃ l, l = ((zs0.set (m + 6 + 1) (Lib.sm (v % 100 * 2 + 1))).set (m + 6) (Lib.sm (v % 100 * 2))) := ⟨_, rfl⟩
      have HR1 := Lib.hid (show Rw W1 blk zs1 by rw [← hW1, hzs1]; exact (Rw.two HR0.out (i := m + 6 + 1) (j := m + 6) (by rw [HL0.out]; omega) (by rw [HL0.out]; omega) (by omega) (Lib.sm (v % 100 * 2 + 1)) (Lib.sm (v % 100 * 2))).drew)
      have HK1 := Lib.hid (show Kp blk w W1 by rw [← hW1]; exact (HK0.out.two (i := 1 + (m + 6 + 1)) (j := 1 + (m + 6)) _ _ (by omega) (by omega)).drew)
      have HL1 := Lib.hid (show zs1.length = d by rw [hzs1]; simpa using HL0.out)
      have HD1 := Lib.hid (show zs1.drop (m + 6) = two (v % 100) ++ zs0.drop (m + 6 + 2) by rw [hzs1]; exact drop_two _ (by rw [HL0.out]; omega) _ _)
      clear hW1 hzs1 hXa1 hXb1 hc hf
      have hc := HR1.out.cells HL1.out
      have hf := HR1.out.free HL1.out
      obtain ⟨G, hG⟩ : ∃ G : Nat → Int, ∀ t, G t = ((zs1.getD t 0).toNat : Int) := ⟨_, fun _ => rfl⟩
      simp only [← hG] at hc
      clear hG
      go_name_slot 8 x2 hx2
      have hxe2 : x2 = ((v / 100 % 100 * 2 : Nat) : Int) := by omega
      have hXa2 : ∀ w, (Instr.index 9 (.string Lib.smalls) (.int .u32 (x2 + 1))).run Tryd.prog w = .ok (.int .u8 ((Lib.sm (v / 100 % 100 * 2 + 1)).toNat : Int)) w := Lib.idx_smalls 9 Tryd.underlying9 .u32 _ _ (by omega) (by omega)
      have hXb2 : ∀ w, (Instr.index 9 (.string Lib.smalls) (.int .u32 x2)).run Tryd.prog w = .ok (.int .u8 ((Lib.sm (v / 100 % 100 * 2)).toNat : Int)) w := Lib.idx_smalls 9 Tryd.underlying9 .u32 _ _ (by omega) (by omega)
      have hlo2 : 0 ≤ x2 := by omega
      have hhi2 : x2 ≤ 198 := by omega
      clear hx2 hxe2
      go_region
      go_wp2
      go_name_world W2 hW2
      obtain ⟨zs2, hzs2⟩ : ∃ l, l = ((zs1.set (m + 4 + 1) (Lib.sm (v / 100 % 100 * 2 + 1))).set (m + 4) (Lib.sm (v / 100 % 100 * 2))) := ⟨_, rfl⟩
      have HR2 := Lib.hid (show Rw W2 blk zs2 by rw [← hW2, hzs2]; exact (Rw.two HR1.out (i := m + 4 + 1) (j := m + 4) (by rw [HL1.out]; omega) (by rw [HL1.out]; omega) (by omega) (Lib.sm (v / 100 % 100 * 2 + 1)) (Lib.sm (v / 100 % 100 * 2))).drew)
      have HK2 := Lib.hid (show Kp blk w W2 by rw [← hW2]; exact (HK1.out.two (i := 1 + (m + 4 + 1)) (j := 1 + (m + 4)) _ _ (by omega) (by omega)).drew)
      have HL2 := Lib.hid (show zs2.length = d by rw [hzs2]; simpa using HL1.out)
      have HD2 := Lib.hid (show zs2.drop (m + 4) = two (v / 100 % 100) ++ zs1.drop (m + 4 + 2) by rw [hzs2]; exact drop_two _ (by rw [HL1.out]; omega) _ _)
      clear hW2 hzs2 hXa2 hXb2 hc hf
      have hc := HR2.out.cells HL2.out
      have hf := HR2.out.free HL2.out
      obtain ⟨G, hG⟩ : ∃ G : Nat → Int, ∀ t, G t = ((zs2.getD t 0).toNat : Int) := ⟨_, fun _ => rfl⟩
      simp only [← hG] at hc
      clear hG
      go_name_slot 11 x3 hx3
      have hxe3 : x3 = ((v / 100 / 100 % 100 * 2 : Nat) : Int) := by omega
      have hXa3 : ∀ w, (Instr.index 9 (.string Lib.smalls) (.int .u32 (x3 + 1))).run Tryd.prog w = .ok (.int .u8 ((Lib.sm (v / 100 / 100 % 100 * 2 + 1)).toNat : Int)) w := Lib.idx_smalls 9 Tryd.underlying9 .u32 _ _ (by omega) (by omega)
      have hXb3 : ∀ w, (Instr.index 9 (.string Lib.smalls) (.int .u32 x3)).run Tryd.prog w = .ok (.int .u8 ((Lib.sm (v / 100 / 100 % 100 * 2)).toNat : Int)) w := Lib.idx_smalls 9 Tryd.underlying9 .u32 _ _ (by omega) (by omega)
      have hlo3 : 0 ≤ x3 := by omega
      have hhi3 : x3 ≤ 198 := by omega
      clear hx3 hxe3
      go_region
      go_wp2
      go_name_world W3 hW3
      obtain ⟨zs3, hzs3⟩ : ∃ l, l = ((zs2.set (m + 2 + 1) (Lib.sm (v / 100 / 100 % 100 * 2 + 1))).set (m + 2) (Lib.sm (v / 100 / 100 % 100 * 2))) := ⟨_, rfl⟩
      have HR3 := Lib.hid (show Rw W3 blk zs3 by rw [← hW3, hzs3]; exact (Rw.two HR2.out (i := m + 2 + 1) (j := m + 2) (by rw [HL2.out]; omega) (by rw [HL2.out]; omega) (by omega) (Lib.sm (v / 100 / 100 % 100 * 2 + 1)) (Lib.sm (v / 100 / 100 % 100 * 2))).drew)
      have HK3 := Lib.hid (show Kp blk w W3 by rw [← hW3]; exact (HK2.out.two (i := 1 + (m + 2 + 1)) (j := 1 + (m + 2)) _ _ (by omega) (by omega)).drew)
      have HL3 := Lib.hid (show zs3.length = d by rw [hzs3]; simpa using HL2.out)
      have HD3 := Lib.hid (show zs3.drop (m + 2) = two (v / 100 / 100 % 100) ++ zs2.drop (m + 2 + 2) by rw [hzs3]; exact drop_two _ (by rw [HL2.out]; omega) _ _)
      clear hW3 hzs3 hXa3 hXb3 hc hf
      have hc := HR3.out.cells HL3.out
      have hf := HR3.out.free HL3.out
      obtain ⟨G, hG⟩ : ∃ G : Nat → Int, ∀ t, G t = ((zs3.getD t 0).toNat : Int) := ⟨_, fun _ => rfl⟩
      simp only [← hG] at hc
      clear hG
      go_name_slot 10 x4 hx4
      have hxe4 : x4 = ((v / 100 / 100 / 100 % 100 * 2 : Nat) : Int) := by omega
      have hXa4 : ∀ w, (Instr.index 9 (.string Lib.smalls) (.int .u32 (x4 + 1))).run Tryd.prog w = .ok (.int .u8 ((Lib.sm (v / 100 / 100 / 100 % 100 * 2 + 1)).toNat : Int)) w := Lib.idx_smalls 9 Tryd.underlying9 .u32 _ _ (by omega) (by omega)
      have hXb4 : ∀ w, (Instr.index 9 (.string Lib.smalls) (.int .u32 x4)).run Tryd.prog w = .ok (.int .u8 ((Lib.sm (v / 100 / 100 / 100 % 100 * 2)).toNat : Int)) w := Lib.idx_smalls 9 Tryd.underlying9 .u32 _ _ (by omega) (by omega)
      have hlo4 : 0 ≤ x4 := by omega
      have hhi4 : x4 ≤ 198 := by omega
      clear hx4 hxe4
      go_region
      have e1 : zs1.drop (m + 6) = two (v % 100) ++ zs0.drop (m + 8) := HD1.out
      have e2 : zs2.drop (m + 4) = two (v / 100 % 100) ++ zs1.drop (m + 6) := HD2.out
      have e3 : zs3.drop (m + 2) = two (v / 100 / 100 % 100) ++ zs2.drop (m + 4) := HD3.out
      have e0 := HF0.out
      rw [fD_8] at e0
      have HFX : Hid (fD m (v / 100 / 100 / 100 / 100) ++ ((zs3.set (m + 1) (Lib.sm (v / 100 / 100 / 100 % 100 * 2 + 1))).set m (Lib.sm (v / 100 / 100 / 100 % 100 * 2))).drop m = fD d u) := by
        unfold Hid
        rw [drop_two m (by rw [HL3.out]; omega), e3, e2, e1, ← e0]
        simp [two]
      clear e0 e1 e2 e3
      go_wp2
      go_roundw
      case rel => exact ⟨m, v / 100 / 100 / 100 / 100, _, by congr 1; omega, by go_num, by omega, by omega, Lib.hid (by simpa using HL3.out), HFX, Lib.hid ((Rw.two HR3.out (i := m + 1) (j := m) (by rw [HL3.out]; omega) (by rw [HL3.out]; omega) (by omega) (Lib.sm (v / 100 / 100 / 100 % 100 * 2 + 1)) (Lib.sm (v / 100 / 100 / 100 % 100 * 2))).drew), Lib.hid ((HK3.out.two (i := 1 + (m + 1)) (j := 1 + m) _ _ (by omega) (by omega)).drew)⟩
      case measure => simp [intOf]; omega
    · obtain ⟨x, hx⟩ : ∃ x : Nat, x = v % 4294967296 := ⟨_, rfl⟩
      have hwx : IntKind.u32.wrap (v : Int) = (x : Int) := by rw [IntKind.wrap_u32]; omega
      have hxl : x < 4294967296 := by omega
      have HX := Lib.hid hx
      have e0 := HF0.out
      rw [fD_7 v (by omega), ← hx] at e0
      have HF := Lib.hid e0
      clear hx e0 HF0
      have hcs : nd = 0 ∨ nd = 1 ∨ nd = 2 ∨ nd = 3 ∨ nd = 4 ∨ nd = 5 ∨ nd = 6 ∨ nd = 7 := by omega
      rcases hcs with rfl | rfl | rfl | rfl | rfl | rfl | rfl | rfl
      · go_wp2
        have HEQ : Hid (zs0 = fD d u) := by unfold Hid; have := HF.out; simpa [gD] using this
        go_end0
        refine ⟨rfl, ?_, ?_⟩
        · rw [← HEQ.out]
          exact HR0.out
        · exact HK0.out
      · go_wp2
        have HEQ : Hid (zs0.set 0 (UInt8.ofNat ((48 + x) % 256)) = fD d u) := by unfold Hid; rw [set_zero _ (by rw [HL0.out]; omega), ← HF.out]; simp [gD]
        go_end0
        refine ⟨rfl, ?_, ?_⟩
        · rw [← HEQ.out]
          exact rw_byte (HR0.out.one (i := 0) (by rw [HL0.out]; omega) _) (by rw [UInt8.toNat_ofNat']; omega)
        · exact HK0.out.one _ (by omega)
      · go_wp2
        go_name_slot 16 x1 hx1
        have hxe1 : x1 = ((x % 100 * 2 : Nat) : Int) := by omega
        have hXa1 : ∀ w, (Instr.index 9 (.string Lib.smalls) (.int .u32 (x1 + 1))).run Tryd.prog w = .ok (.int .u8 ((Lib.sm (x % 100 * 2 + 1)).toNat : Int)) w := Lib.idx_smalls 9 Tryd.underlying9 .u32 _ _ (by omega) (by omega)
        have hXb1 : ∀ w, (Instr.index 9 (.string Lib.smalls) (.int .u32 x1)).run Tryd.prog w = .ok (.int .u8 ((Lib.sm (x % 100 * 2)).toNat : Int)) w := Lib.idx_smalls 9 Tryd.underlying9 .u32 _ _ (by omega) (by omega)
        have hlo1 : 0 ≤ x1 := by omega
        have hhi1 : x1 ≤ 198 := by omega
        clear hx1 hxe1
        have hl00 : wr.cell? ⟨blk, 1, none⟩ = some (.int .u8 (G 0)) := hc 0 (by omega)
        have hm00 : wr.frozen? ⟨blk, 1, none⟩ = false := hf 0 (by omega)
        have hl01 : wr.cell? ⟨blk, 2, none⟩ = some (.int .u8 (G 1)) := hc 1 (by omega)
        have hm01 : wr.frozen? ⟨blk, 2, none⟩ = false := hf 1 (by omega)
        go_region
        have hEq : ((zs0.set (0 + 1) (Lib.sm (x % 100 * 2 + 1))).set 0 (Lib.sm (x % 100 * 2))) = fD d u := by
          have h := drop_two (zs := zs0) 0 (by rw [HL0.out]; omega) (Lib.sm (x % 100 * 2 + 1)) (Lib.sm (x % 100 * 2))
          rw [List.drop_zero] at h
          rw [h, ← HF.out]
          simp [gD, two]
        have HEQ := Lib.hid hEq
        clear hEq
        go_wp2
        go_end0
        refine ⟨rfl, ?_, ?_⟩
        · rw [← HEQ.out]
          exact (Rw.two HR0.out (i := 1) (j := 0) (by rw [HL0.out]; omega) (by rw [HL0.out]; omega) (by omega) (Lib.sm (x % 100 * 2 + 1)) (Lib.sm (x % 100 * 2))).drew
        · exact (HK0.out.two (i := 2) (j := 1) _ _ (by omega) (by omega)).drew
      · go_wp2
        go_name_slot 16 x1 hx1
        have hxe1 : x1 = ((x % 100 * 2 : Nat) : Int) := by omega
        have hXa1 : ∀ w, (Instr.index 9 (.string Lib.smalls) (.int .u32 (x1 + 1))).run Tryd.prog w = .ok (.int .u8 ((Lib.sm (x % 100 * 2 + 1)).toNat : Int)) w := Lib.idx_smalls 9 Tryd.underlying9 .u32 _ _ (by omega) (by omega)
        have hXb1 : ∀ w, (Instr.index 9 (.string Lib.smalls) (.int .u32 x1)).run Tryd.prog w = .ok (.int .u8 ((Lib.sm (x % 100 * 2)).toNat : Int)) w := Lib.idx_smalls 9 Tryd.underlying9 .u32 _ _ (by omega) (by omega)
        have hlo1 : 0 ≤ x1 := by omega
        have hhi1 : x1 ≤ 198 := by omega
        clear hx1 hxe1
        have hl01 : wr.cell? ⟨blk, 2, none⟩ = some (.int .u8 (G 1)) := hc 1 (by omega)
        have hm01 : wr.frozen? ⟨blk, 2, none⟩ = false := hf 1 (by omega)
        have hl02 : wr.cell? ⟨blk, 3, none⟩ = some (.int .u8 (G 2)) := hc 2 (by omega)
        have hm02 : wr.frozen? ⟨blk, 3, none⟩ = false := hf 2 (by omega)
        have hl0z : wr.cell? ⟨blk, 1, none⟩ = some (.int .u8 (G 0)) := hc 0 (by omega)
        have hm0z : wr.frozen? ⟨blk, 1, none⟩ = false := hf 0 (by omega)
        go_region
        have hEq : ((zs0.set (1 + 1) (Lib.sm (x % 100 * 2 + 1))).set 1 (Lib.sm (x % 100 * 2))).set 0 (UInt8.ofNat ((48 + x / 100) % 256)) = fD d u := by
          have h := drop_two (zs := zs0) 1 (by rw [HL0.out]; omega) (Lib.sm (x % 100 * 2 + 1)) (Lib.sm (x % 100 * 2))
          rw [set_zero _ (by simp; rw [HL0.out]; omega), h, ← HF.out]
          simp [gD, two]
        have HEQ := Lib.hid hEq
        clear hEq
        go_wp2
        go_end0
        refine ⟨rfl, ?_, ?_⟩
        · rw [← HEQ.out]
          exact (rw_byte (b := UInt8.ofNat ((48 + x / 100) % 256)) ((Rw.two HR0.out (i := 2) (j := 1) (by rw [HL0.out]; omega) (by rw [HL0.out]; omega) (by omega) (Lib.sm (x % 100 * 2 + 1)) (Lib.sm (x % 100 * 2))).one (i := 0) (by simp; rw [HL0.out]; omega) (UInt8.ofNat ((48 + x / 100) % 256))) (by rw [UInt8.toNat_ofNat']; omega)).drew
        · exact ((HK0.out.two (i := 3) (j := 2) _ _ (by omega) (by omega)).one (i := 1) _ (by omega)).drew
      · go_wp2
        go_name_slot 15 x1 hx1
        have hxe1 : x1 = ((x % 100 * 2 : Nat) : Int) := by omega
        have hXa1 : ∀ w, (Instr.index 9 (.string Lib.smalls) (.int .u32 (x1 + 1))).run Tryd.prog w = .ok (.int .u8 ((Lib.sm (x % 100 * 2 + 1)).toNat : Int)) w := Lib.idx_smalls 9 Tryd.underlying9 .u32 _ _ (by omega) (by omega)
        have hXb1 : ∀ w, (Instr.index 9 (.string Lib.smalls) (.int .u32 x1)).run Tryd.prog w = .ok (.int .u8 ((Lib.sm (x % 100 * 2)).toNat : Int)) w := Lib.idx_smalls 9 Tryd.underlying9 .u32 _ _ (by omega) (by omega)
        have hlo1 : 0 ≤ x1 := by omega
        have hhi1 : x1 ≤ 198 := by omega
        clear hx1 hxe1
        have hl02 : wr.cell? ⟨blk, 3, none⟩ = some (.int .u8 (G 2)) := hc 2 (by omega)
        have hm02 : wr.frozen? ⟨blk, 3, none⟩ = false := hf 2 (by omega)
        have hl03 : wr.cell? ⟨blk, 4, none⟩ = some (.int .u8 (G 3)) := hc 3 (by omega)
        have hm03 : wr.frozen? ⟨blk, 4, none⟩ = false := hf 3 (by omega)
        go_region
        go_wp2
        go_name_world W1 hW1
        obtain ⟨zs1, hzs1⟩ : ∃ l, l = ((zs0.set (2 + 1) (Lib.sm (x % 100 * 2 + 1))).set (2) (Lib.sm (x % 100 * 2))) := ⟨_, rfl⟩
        have HR1 := Lib.hid (show Rw W1 blk zs1 by rw [← hW1, hzs1]; exact (Rw.two HR0.out (i := 2 + 1) (j := 2) (by rw [HL0.out]; omega) (by rw [HL0.out]; omega) (by omega) (Lib.sm (x % 100 * 2 + 1)) (Lib.sm (x % 100 * 2))).drew)
        have HK1 := Lib.hid (show Kp blk w W1 by rw [← hW1]; exact (HK0.out.two (i := 1 + (2 + 1)) (j := 1 + (2)) _ _ (by omega) (by omega)).drew)
        have HL1 := Lib.hid (show zs1.length = d by rw [hzs1]; simpa using HL0.out)
        have HD1 := Lib.hid (show zs1.drop (2) = two (x % 100) ++ zs0.drop (2 + 2) by rw [hzs1]; exact drop_two _ (by rw [HL0.out]; omega) _ _)
        clear hW1 hzs1 hXa1 hXb1 hc hf
        have hc := HR1.out.cells HL1.out
        have hf := HR1.out.free HL1.out
        obtain ⟨G, hG⟩ : ∃ G : Nat → Int, ∀ t, G t = ((zs1.getD t 0).toNat : Int) := ⟨_, fun _ => rfl⟩
        simp only [← hG] at hc
        clear hG
        go_name_slot 14 x2 hx2
        have hxe2 : x2 = ((x / 100 % 100 * 2 : Nat) : Int) := by omega
        have hXa2 : ∀ w, (Instr.index 9 (.string Lib.smalls) (.int .u32 (x2 + 1))).run Tryd.prog w = .ok (.int .u8 ((Lib.sm (x / 100 % 100 * 2 + 1)).toNat : Int)) w := Lib.idx_smalls 9 Tryd.underlying9 .u32 _ _ (by omega) (by omega)
        have hXb2 : ∀ w, (Instr.index 9 (.string Lib.smalls) (.int .u32 x2)).run Tryd.prog w = .ok (.int .u8 ((Lib.sm (x / 100 % 100 * 2)).toNat : Int)) w := Lib.idx_smalls 9 Tryd.underlying9 .u32 _ _ (by omega) (by omega)
        have hlo2 : 0 ≤ x2 := by omega
        have hhi2 : x2 ≤ 198 := by omega
        clear hx2 hxe2
        have hl10 : W1.cell? ⟨blk, 1, none⟩ = some (.int .u8 (G 0)) := hc 0 (by omega)
        have hm10 : W1.frozen? ⟨blk, 1, none⟩ = false := hf 0 (by omega)
        have hl11 : W1.cell? ⟨blk, 2, none⟩ = some (.int .u8 (G 1)) := hc 1 (by omega)
        have hm11 : W1.frozen? ⟨blk, 2, none⟩ = false := hf 1 (by omega)
        go_region
        have e1 : zs1.drop 2 = two (x % 100) ++ zs0.drop 4 := HD1.out
        have hEq : ((zs1.set (0 + 1) (Lib.sm (x / 100 % 100 * 2 + 1))).set 0 (Lib.sm (x / 100 % 100 * 2))) = fD d u := by
          have h := drop_two (zs := zs1) 0 (by rw [HL1.out]; omega) (Lib.sm (x / 100 % 100 * 2 + 1)) (Lib.sm (x / 100 % 100 * 2))
          rw [List.drop_zero] at h
          rw [h, ← HF.out]
          simp [gD, two, e1]
        have HEQ := Lib.hid hEq
        clear hEq
        go_wp2
        go_end0
        refine ⟨rfl, ?_, ?_⟩
        · rw [← HEQ.out]
          exact (Rw.two HR1.out (i := 1) (j := 0) (by rw [HL1.out]; omega) (by rw [HL1.out]; omega) (by omega) (Lib.sm (x / 100 % 100 * 2 + 1)) (Lib.sm (x / 100 % 100 * 2))).drew
        · exact (HK1.out.two (i := 2) (j := 1) _ _ (by omega) (by omega)).drew
      · go_wp2
        go_name_slot 15 x1 hx1
        have hxe1 : x1 = ((x % 100 * 2 : Nat) : Int) := by omega
        have hXa1 : ∀ w, (Instr.index 9 (.string Lib.smalls) (.int .u32 (x1 + 1))).run Tryd.prog w = .ok (.int .u8 ((Lib.sm (x % 100 * 2 + 1)).toNat : Int)) w := Lib.idx_smalls 9 Tryd.underlying9 .u32 _ _ (by omega) (by omega)
        have hXb1 : ∀ w, (Instr.index 9 (.string Lib.smalls) (.int .u32 x1)).run Tryd.prog w = .ok (.int .u8 ((Lib.sm (x % 100 * 2)).toNat : Int)) w := Lib.idx_smalls 9 Tryd.underlying9 .u32 _ _ (by omega) (by omega)
        have hlo1 : 0 ≤ x1 := by omega
        have hhi1 : x1 ≤ 198 := by omega
        clear hx1 hxe1
        have hl03 : wr.cell? ⟨blk, 4, none⟩ = some (.int .u8 (G 3)) := hc 3 (by omega)
        have hm03 : wr.frozen? ⟨blk, 4, none⟩ = false := hf 3 (by omega)
        have hl04 : wr.cell? ⟨blk, 5, none⟩ = some (.int .u8 (G 4)) := hc 4 (by omega)
        have hm04 : wr.frozen? ⟨blk, 5, none⟩ = false := hf 4 (by omega)
        go_region
        go_wp2
        go_name_world W1 hW1
        obtain ⟨zs1, hzs1⟩ : ∃ l, l = ((zs0.set (3 + 1) (Lib.sm (x % 100 * 2 + 1))).set (3) (Lib.sm (x % 100 * 2))) := ⟨_, rfl⟩
        have HR1 := Lib.hid (show Rw W1 blk zs1 by rw [← hW1, hzs1]; exact (Rw.two HR0.out (i := 3 + 1) (j := 3) (by rw [HL0.out]; omega) (by rw [HL0.out]; omega) (by omega) (Lib.sm (x % 100 * 2 + 1)) (Lib.sm (x % 100 * 2))).drew)
        have HK1 := Lib.hid (show Kp blk w W1 by rw [← hW1]; exact (HK0.out.two (i := 1 + (3 + 1)) (j := 1 + (3)) _ _ (by omega) (by omega)).drew)
        have HL1 := Lib.hid (show zs1.length = d by rw [hzs1]; simpa using HL0.out)
        have HD1 := Lib.hid (show zs1.drop (3) = two (x % 100) ++ zs0.drop (3 + 2) by rw [hzs1]; exact drop_two _ (by rw [HL0.out]; omega) _ _)
        clear hW1 hzs1 hXa1 hXb1 hc hf
        have hc := HR1.out.cells HL1.out
        have hf := HR1.out.free HL1.out
        obtain ⟨G, hG⟩ : ∃ G : Nat → Int, ∀ t, G t = ((zs1.getD t 0).toNat : Int) := ⟨_, fun _ => rfl⟩
        simp only [← hG] at hc
        clear hG
        go_name_slot 14 x2 hx2
        have hxe2 : x2 = ((x / 100 % 100 * 2 : Nat) : Int) := by omega
        have hXa2 : ∀ w, (Instr.index 9 (.string Lib.smalls) (.int .u32 (x2 + 1))).run Tryd.prog w = .ok (.int .u8 ((Lib.sm (x / 100 % 100 * 2 + 1)).toNat : Int)) w := Lib.idx_smalls 9 Tryd.underlying9 .u32 _ _ (by omega) (by omega)
        have hXb2 : ∀ w, (Instr.index 9 (.string Lib.smalls) (.int .u32 x2)).run Tryd.prog w = .ok (.int .u8 ((Lib.sm (x / 100 % 100 * 2)).toNat : Int)) w := Lib.idx_smalls 9 Tryd.underlying9 .u32 _ _ (by omega) (by omega)
        have hlo2 : 0 ≤ x2 := by omega
        have hhi2 : x2 ≤ 198 := by omega
        clear hx2 hxe2
        have hl11 : W1.cell? ⟨blk, 2, none⟩ = some (.int .u8 (G 1)) := hc 1 (by omega)
        have hm11 : W1.frozen? ⟨blk, 2, none⟩ = false := hf 1 (by omega)
        have hl12 : W1.cell? ⟨blk, 3, none⟩ = some (.int .u8 (G 2)) := hc 2 (by omega)
        have hm12 : W1.frozen? ⟨blk, 3, none⟩ = false := hf 2 (by omega)
        have hl1z : W1.cell? ⟨blk, 1, none⟩ = some (.int .u8 (G 0)) := hc 0 (by omega)
        have hm1z : W1.frozen? ⟨blk, 1, none⟩ = false := hf 0 (by omega)
        go_region
        have e1 : zs1.drop 3 = two (x % 100) ++ zs0.drop 5 := HD1.out
        have hEq : ((zs1.set (1 + 1) (Lib.sm (x / 100 % 100 * 2 + 1))).set 1 (Lib.sm (x / 100 % 100 * 2))).set 0 (UInt8.ofNat ((48 + x / 100 / 100) % 256)) = fD d u := by
          have h := drop_two (zs := zs1) 1 (by rw [HL1.out]; omega) (Lib.sm (x / 100 % 100 * 2 + 1)) (Lib.sm (x / 100 % 100 * 2))
          rw [set_zero _ (by simp; rw [HL1.out]; omega), h, ← HF.out]
          simp [gD, two, e1]
        have HEQ := Lib.hid hEq
        clear hEq
        go_wp2
        go_end0
        refine ⟨rfl, ?_, ?_⟩
        · rw [← HEQ.out]
          exact (rw_byte (b := UInt8.ofNat ((48 + x / 100 / 100) % 256)) ((Rw.two HR1.out (i := 2) (j := 1) (by rw [HL1.out]; omega) (by rw [HL1.out]; omega) (by omega) (Lib.sm (x / 100 % 100 * 2 + 1)) (Lib.sm (x / 100 % 100 * 2))).one (i := 0) (by simp; rw [HL1.out]; omega) (UInt8.ofNat ((48 + x / 100 / 100) % 256))) (by rw [UInt8.toNat_ofNat']; omega)).drew
        · exact ((HK1.out.two (i := 3) (j := 2) _ _ (by omega) (by omega)).one (i := 1) _ (by omega)).drew
      · go_wp2
        go_name_slot 15 x1 hx1
        have hxe1 : x1 = ((x % 100 * 2 : Nat) : Int) := by omega
        have hXa1 : ∀ w, (Instr.index 9 (.string Lib.smalls) (.int .u32 (x1 + 1))).run Tryd.prog w = .ok (.int .u8 ((Lib.sm (x % 100 * 2 + 1)).toNat : Int)) w := Lib.idx_smalls 9 Tryd.underlying9 .u32 _ _ (by omega) (by omega)
        have hXb1 : ∀ w, (Instr.index 9 (.string Lib.smalls) (.int .u32 x1)).run Tryd.prog w = .ok (.int .u8 ((Lib.sm (x % 100 * 2)).toNat : Int)) w := Lib.idx_smalls 9 Tryd.underlying9 .u32 _ _ (by omega) (by omega)
        have hlo1 : 0 ≤ x1 := by omega
        have hhi1 : x1 ≤ 198 := by omega
        clear hx1 hxe1
        have hl04 : wr.cell? ⟨blk, 5, none⟩ = some (.int .u8 (G 4)) := hc 4 (by omega)
        have hm04 : wr.frozen? ⟨blk, 5, none⟩ = false := hf 4 (by omega)
        have hl05 : wr.cell? ⟨blk, 6, none⟩ = some (.int .u8 (G 5)) := hc 5 (by omega)
        have hm05 : wr.frozen? ⟨blk, 6, none⟩ = false := hf 5 (by omega)
        go_region
        go_wp2
        go_name_world W1 hW1
        obtain ⟨zs1, hzs1⟩ : ∃ l, l = ((zs0.set (4 + 1) (Lib.sm (x % 100 * 2 + 1))).set (4) (Lib.sm (x % 100 * 2))) := ⟨_, rfl⟩
        have HR1 := Lib.hid (show Rw W1 blk zs1 by rw [← hW1, hzs1]; exact (Rw.two HR0.out (i := 4 + 1) (j := 4) (by rw [HL0.out]; omega) (by rw [HL0.out]; omega) (by omega) (Lib.sm (x % 100 * 2 + 1)) (Lib.sm (x % 100 * 2))).drew)
        have HK1 := Lib.hid (show Kp blk w W1 by rw [← hW1]; exact (HK0.out.two (i := 1 + (4 + 1)) (j := 1 + (4)) _ _ (by omega) (by omega)).drew)
        have HL1 := Lib.hid (show zs1.length = d by rw [hzs1]; simpa using HL0.out)
        have HD1 := Lib.hid (show zs1.drop (4) = two (x % 100) ++ zs0.drop (4 + 2) by rw [hzs1]; exact drop_two _ (by rw [HL0.out]; omega) _ _)
        clear hW1 hzs1 hXa1 hXb1 hc hf
        have hc := HR1.out.cells HL1.out
        have hf := HR1.out.free HL1.out
        obtain ⟨G, hG⟩ : ∃ G : Nat → Int, ∀ t, G t = ((zs1.getD t 0).toNat : Int) := ⟨_, fun _ => rfl⟩
        simp only [← hG] at hc
        clear hG
        go_name_slot 14 x2 hx2
        have hxe2 : x2 = ((x / 100 % 100 * 2 : Nat) : Int) := by omega
        have hXa2 : ∀ w, (Instr.index 9 (.string Lib.smalls) (.int .u32 (x2 + 1))).run Tryd.prog w = .ok (.int .u8 ((Lib.sm (x / 100 % 100 * 2 + 1)).toNat : Int)) w := Lib.idx_smalls 9 Tryd.underlying9 .u32 _ _ (by omega) (by omega)
        have hXb2 : ∀ w, (Instr.index 9 (.string Lib.smalls) (.int .u32 x2)).run Tryd.prog w = .ok (.int .u8 ((Lib.sm (x / 100 % 100 * 2)).toNat : Int)) w := Lib.idx_smalls 9 Tryd.underlying9 .u32 _ _ (by omega) (by omega)
        have hlo2 : 0 ≤ x2 := by omega
        have hhi2 : x2 ≤ 198 := by omega
        clear hx2 hxe2
        have hl12 : W1.cell? ⟨blk, 3, none⟩ = some (.int .u8 (G 2)) := hc 2 (by omega)
        have hm12 : W1.frozen? ⟨blk, 3, none⟩ = false := hf 2 (by omega)
        have hl13 : W1.cell? ⟨blk, 4, none⟩ = some (.int .u8 (G 3)) := hc 3 (by omega)
        have hm13 : W1.frozen? ⟨blk, 4, none⟩ = false := hf 3 (by omega)
        go_region
        go_wp2
        go_name_world W2 hW2
        obtain ⟨zs2, hzs2⟩ : ∃ l, l = ((zs1.set (2 + 1) (Lib.sm (x / 100 % 100 * 2 + 1))).set (2) (Lib.sm (x / 100 % 100 * 2))) := ⟨_, rfl⟩
        have HR2 := Lib.hid (show Rw W2 blk zs2 by rw [← hW2, hzs2]; exact (Rw.two HR1.out (i := 2 + 1) (j := 2) (by rw [HL1.out]; omega) (by rw [HL1.out]; omega) (by omega) (Lib.sm (x / 100 % 100 * 2 + 1)) (Lib.sm (x / 100 % 100 * 2))).drew)
        have HK2 := Lib.hid (show Kp blk w W2 by rw [← hW2]; exact (HK1.out.two (i := 1 + (2 + 1)) (j := 1 + (2)) _ _ (by omega) (by omega)).drew)
        have HL2 := Lib.hid (show zs2.length = d by rw [hzs2]; simpa using HL1.out)
        have HD2 := Lib.hid (show zs2.drop (2) = two (x / 100 % 100) ++ zs1.drop (2 + 2) by rw [hzs2]; exact drop_two _ (by rw [HL1.out]; omega) _ _)
        clear hW2 hzs2 hXa2 hXb2 hc hf
        have hc := HR2.out.cells HL2.out
        have hf := HR2.out.free HL2.out
        obtain ⟨G, hG⟩ : ∃ G : Nat → Int, ∀ t, G t = ((zs2.getD t 0).toNat : Int) := ⟨_, fun _ => rfl⟩
        simp only [← hG] at hc
        clear hG
        go_name_slot 16 x3 hx3
        have hxe3 : x3 = ((x / 100 / 100 % 100 * 2 : Nat) : Int) := by omega
        have hXa3 : ∀ w, (Instr.index 9 (.string Lib.smalls) (.int .u32 (x3 + 1))).run Tryd.prog w = .ok (.int .u8 ((Lib.sm (x / 100 / 100 % 100 * 2 + 1)).toNat : Int)) w := Lib.idx_smalls 9 Tryd.underlying9 .u32 _ _ (by omega) (by omega)
        have hXb3 : ∀ w, (Instr.index 9 (.string Lib.smalls) (.int .u32 x3)).run Tryd.prog w = .ok (.int .u8 ((Lib.sm (x / 100 / 100 % 100 * 2)).toNat : Int)) w := Lib.idx_smalls 9 Tryd.underlying9 .u32 _ _ (by omega) (by omega)
        have hlo3 : 0 ≤ x3 := by omega
        have hhi3 : x3 ≤ 198 := by omega
        clear hx3 hxe3
        have hl20 : W2.cell? ⟨blk, 1, none⟩ = some (.int .u8 (G 0)) := hc 0 (by omega)
        have hm20 : W2.frozen? ⟨blk, 1, none⟩ = false := hf 0 (by omega)
        have hl21 : W2.cell? ⟨blk, 2, none⟩ = some (.int .u8 (G 1)) := hc 1 (by omega)
        have hm21 : W2.frozen? ⟨blk, 2, none⟩ = false := hf 1 (by omega)
        go_region
        have e1 : zs1.drop 4 = two (x % 100) ++ zs0.drop 6 := HD1.out
        have e2 : zs2.drop 2 = two (x / 100 % 100) ++ zs1.drop 4 := HD2.out
        have hEq : ((zs2.set (0 + 1) (Lib.sm (x / 100 / 100 % 100 * 2 + 1))).set 0 (Lib.sm (x / 100 / 100 % 100 * 2))) = fD d u := by
          have h := drop_two (zs := zs2) 0 (by rw [HL2.out]; omega) (Lib.sm (x / 100 / 100 % 100 * 2 + 1)) (Lib.sm (x / 100 / 100 % 100 * 2))
          rw [List.drop_zero] at h
          rw [h, ← HF.out]
          simp [gD, two, e2, e1]
        have HEQ := Lib.hid hEq
        clear hEq
        go_wp2
        go_end0
        refine ⟨rfl, ?_, ?_⟩
        · rw [← HEQ.out]
          exact (Rw.two HR2.out (i := 1) (j := 0) (by rw [HL2.out]; omega) (by rw [HL2.out]; omega) (by omega) (Lib.sm (x / 100 / 100 % 100 * 2 + 1)) (Lib.sm (x / 100 / 100 % 100 * 2))).drew
        · exact (HK2.out.two (i := 2) (j := 1) _ _ (by omega) (by omega)).drew
      · go_wp2
        go_name_slot 15 x1 hx1
        have hxe1 : x1 = ((x % 100 * 2 : Nat) : Int) := by omega
        have hXa1 : ∀ w, (Instr.index 9 (.string Lib.smalls) (.int .u32 (x1 + 1))).run Tryd.prog w = .ok (.int .u8 ((Lib.sm (x % 100 * 2 + 1)).toNat : Int)) w := Lib.idx_smalls 9 Tryd.underlying9 .u32 _ _ (by omega) (by omega)
        have hXb1 : ∀ w, (Instr.index 9 (.string Lib.smalls) (.int .u32 x1)).run Tryd.prog w = .ok (.int .u8 ((Lib.sm (x % 100 * 2)).toNat : Int)) w := Lib.idx_smalls 9 Tryd.underlying9 .u32 _ _ (by omega) (by omega)
        have hlo1 : 0 ≤ x1 := by omega
        have hhi1 : x1 ≤ 198 := by omega
        clear hx1 hxe1
        have hl05 : wr.cell? ⟨blk, 6, none⟩ = some (.int .u8 (G 5)) := hc 5 (by omega)
        have hm05 : wr.frozen? ⟨blk, 6, none⟩ = false := hf 5 (by omega)
        have hl06 : wr.cell? ⟨blk, 7, none⟩ = some (.int .u8 (G 6)) := hc 6 (by omega)
        have hm06 : wr.frozen? ⟨blk, 7, none⟩ = false := hf 6 (by omega)
        go_region
        go_wp2
        go_name_world W1 hW1
        obtain ⟨zs1, hzs1⟩ : ∃ l, l = ((zs0.set (5 + 1) (Lib.sm (x % 100 * 2 + 1))).set (5) (Lib.sm (x % 100 * 2))) := ⟨_, rfl⟩
        have HR1 := Lib.hid (show Rw W1 blk zs1 by rw [← hW1, hzs1]; exact (Rw.two HR0.out (i := 5 + 1) (j := 5) (by rw [HL0.out]; omega) (by rw [HL0.out]; omega) (by omega) (Lib.sm (x % 100 * 2 + 1)) (Lib.sm (x % 100 * 2))).drew)
        have HK1 := Lib.hid (show Kp blk w W1 by rw [← hW1]; exact (HK0.out.two (i := 1 + (5 + 1)) (j := 1 + (5)) _ _ (by omega) (by omega)).drew)
        have HL1 := Lib.hid (show zs1.length = d by rw [hzs1]; simpa using HL0.out)
        have HD1 := Lib.hid (show zs1.drop (5) = two (x % 100) ++ zs0.drop (5 + 2) by rw [hzs1]; exact drop_two _ (by rw [HL0.out]; omega) _ _)
        clear hW1 hzs1 hXa1 hXb1 hc hf
        have hc := HR1.out.cells HL1.out
        have hf := HR1.out.free HL1.out
        obtain ⟨G, hG⟩ : ∃ G : Nat → Int, ∀ t, G t = ((zs1.getD t 0).toNat : Int) := ⟨_, fun _ => rfl⟩
        simp only [← hG] at hc
        clear hG
        go_name_slot 14 x2 hx2
        have hxe2 : x2 = ((x / 100 % 100 * 2 : Nat) : Int) := by omega
        have hXa2 : ∀ w, (Instr.index 9 (.string Lib.smalls) (.int .u32 (x2 + 1))).run Tryd.prog w = .ok (.int .u8 ((Lib.sm (x / 100 % 100 * 2 + 1)).toNat : Int)) w := Lib.idx_smalls 9 Tryd.underlying9 .u32 _ _ (by omega) (by omega)
        have hXb2 : ∀ w, (Instr.index 9 (.string Lib.smalls) (.int .u32 x2)).run Tryd.prog w = .ok (.int .u8 ((Lib.sm (x / 100 % 100 * 2)).toNat : Int)) w := Lib.idx_smalls 9 Tryd.underlying9 .u32 _ _ (by omega) (by omega)
        have hlo2 : 0 ≤ x2 := by omega
        have hhi2 : x2 ≤ 198 := by omega
        clear hx2 hxe2
        have hl13 : W1.cell? ⟨blk, 4, none⟩ = some (.int .u8 (G 3)) := hc 3 (by omega)
        have hm13 : W1.frozen? ⟨blk, 4, none⟩ = false := hf 3 (by omega)
        have hl14 : W1.cell? ⟨blk, 5, none⟩ = some (.int .u8 (G 4)) := hc 4 (by omega)
        have hm14 : W1.frozen? ⟨blk, 5, none⟩ = false := hf 4 (by omega)
        go_region
        go_wp2
        go_name_world W2 hW2
        obtain ⟨zs2, hzs2⟩ : ∃ l, l = ((zs1.set (3 + 1) (Lib.sm (x / 100 % 100 * 2 + 1))).set (3) (Lib.sm (x / 100 % 100 * 2))) := ⟨_, rfl⟩
        have HR2 := Lib.hid (show Rw W2 blk zs2 by rw [← hW2, hzs2]; exact (Rw.two HR1.out (i := 3 + 1) (j := 3) (by rw [HL1.out]; omega) (by rw [HL1.out]; omega) (by omega) (Lib.sm (x / 100 % 100 * 2 + 1)) (Lib.sm (x / 100 % 100 * 2))).drew)
        have HK2 := Lib.hid (show Kp blk w W2 by rw [← hW2]; exact (HK1.out.two (i := 1 + (3 + 1)) (j := 1 + (3)) _ _ (by omega) (by omega)).drew)
        have HL2 := Lib.hid (show zs2.length = d by rw [hzs2]; simpa using HL1.out)
        have HD2 := Lib.hid (show zs2.drop (3) = two (x / 100 % 100) ++ zs1.drop (3 + 2) by rw [hzs2]; exact drop_two _ (by rw [HL1.out]; omega) _ _)
        clear hW2 hzs2 hXa2 hXb2 hc hf
        have hc := HR2.out.cells HL2.out
        have hf := HR2.out.free HL2.out
        obtain ⟨G, hG⟩ : ∃ G : Nat → Int, ∀ t, G t = ((zs2.getD t 0).toNat : Int) := ⟨_, fun _ => rfl⟩
        simp only [← hG] at hc
        clear hG
        go_name_slot 16 x3 hx3
        have hxe3 : x3 = ((x / 100 / 100 % 100 * 2 : Nat) : Int) := by omega
        have hXa3 : ∀ w, (Instr.index 9 (.string Lib.smalls) (.int .u32 (x3 + 1))).run Tryd.prog w = .ok (.int .u8 ((Lib.sm (x / 100 / 100 % 100 * 2 + 1)).toNat : Int)) w := Lib.idx_smalls 9 Tryd.underlying9 .u32 _ _ (by omega) (by omega)
        have hXb3 : ∀ w, (Instr.index 9 (.string Lib.smalls) (.int .u32 x3)).run Tryd.prog w = .ok (.int .u8 ((Lib.sm (x / 100 / 100 % 100 * 2)).toNat : Int)) w := Lib.idx_smalls 9 Tryd.underlying9 .u32 _ _ (by omega) (by omega)
        have hlo3 : 0 ≤ x3 := by omega
        have hhi3 : x3 ≤ 198 := by omega
        clear hx3 hxe3
        have hl21 : W2.cell? ⟨blk, 2, none⟩ = some (.int .u8 (G 1)) := hc 1 (by omega)
        have hm21 : W2.frozen? ⟨blk, 2, none⟩ = false := hf 1 (by omega)
        have hl22 : W2.cell? ⟨blk, 3, none⟩ = some (.int .u8 (G 2)) := hc 2 (by omega)
        have hm22 : W2.frozen? ⟨blk, 3, none⟩ = false := hf 2 (by omega)
        have hl2z : W2.cell? ⟨blk, 1, none⟩ = some (.int .u8 (G 0)) := hc 0 (by omega)
        have hm2z : W2.frozen? ⟨blk, 1, none⟩ = false := hf 0 (by omega)
        go_region
        have e1 : zs1.drop 5 = two (x % 100) ++ zs0.drop 7 := HD1.out
        have e2 : zs2.drop 3 = two (x / 100 % 100) ++ zs1.drop 5 := HD2.out
        have hEq : ((zs2.set (1 + 1) (Lib.sm (x / 100 / 100 % 100 * 2 + 1))).set 1 (Lib.sm (x / 100 / 100 % 100 * 2))).set 0 (UInt8.ofNat ((48 + x / 100 / 100 / 100) % 256)) = fD d u := by
          have h := drop_two (zs := zs2) 1 (by rw [HL2.out]; omega) (Lib.sm (x / 100 / 100 % 100 * 2 + 1)) (Lib.sm (x / 100 / 100 % 100 * 2))
          rw [set_zero _ (by simp; rw [HL2.out]; omega), h, ← HF.out]
          simp [gD, two, e2, e1]
        have HEQ := Lib.hid hEq
        clear hEq
        go_wp2
        go_end0
        refine ⟨rfl, ?_, ?_⟩
        · rw [← HEQ.out]
          exact (rw_byte (b := UInt8.ofNat ((48 + x / 100 / 100 / 100) % 256)) ((Rw.two HR2.out (i := 2) (j := 1) (by rw [HL2.out]; omega) (by rw [HL2.out]; omega) (by omega) (Lib.sm (x / 100 / 100 % 100 * 2 + 1)) (Lib.sm (x / 100 / 100 % 100 * 2))).one (i := 0) (by simp; rw [HL2.out]; omega) (UInt8.ofNat ((48 + x / 100 / 100 / 100) % 256))) (by rw [UInt8.toNat_ofNat']; omega)).drew
        · exact ((HK2.out.two (i := 3) (j := 2) _ _ (by omega) (by omega)).one (i := 1) _ (by omega)).drew
end Go.Proofs.YtlaofaopajcfkaaDoor

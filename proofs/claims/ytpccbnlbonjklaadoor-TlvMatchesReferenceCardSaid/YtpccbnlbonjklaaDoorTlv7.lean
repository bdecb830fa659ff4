/- tlv.read. -/
import Derived.Test.YtpccbnlbonjklaaDoorTlv6
namespace Go.Proofs.YtpccbnlbonjklaaDoor
set_option maxRecDepth 100000
set_option linter.unusedVariables false
open Go.RowKit

theorem results_cell3 {fn : Func} {p u v : Tmp} {ty : TypeId} (h : fn.results = #[.cell p ty, .tmp u, .tmp v]) (tmps : Array Value) (P : Program) (w : World) :
    (results fn tmps).run P w = ((asAddr (tmps.getD p undef)).run P w).andThen fun a w₁ => ((loadVar ty a).run P w₁).andThen fun x w₂ => .ok (.tuple #[x, tmps.getD u undef, tmps.getD v undef]) w₂ := by
  simp only [results, h]
  simp [Sem.run_bind, Result.andThen]
/-- the length that stands at an offset -/
def lenAt (zs : List Int) (p : Nat) : Nat := (Wr.num ((zs.drop (p + 2)).take 2)).toNat
def typAt (zs : List Int) (p : Nat) : Int := Wr.num ((zs.drop p).take 2)
def valAt (zs : List Int) (p : Nat) : List Int := (zs.drop (p + 4)).take (lenAt zs p - 4)
theorem lenAt_bd {zs : List Int} (hb : Byt zs) (p : Nat) : lenAt zs p ≤ 16777215 := by
  unfold lenAt
  have h : ((zs.drop (p + 2)).take 2).length ≤ 3 := by simp; omega
  have := (Wr.num_small rfl h ((hb.drop _).take _)).2
  omega
theorem lenAt_eq {zs : List Int} (hb : Byt zs) (p : Nat) : Wr.num ((zs.drop (p + 2)).take 2) = (lenAt zs p : Int) := by
  unfold lenAt
  have h : ((zs.drop (p + 2)).take 2).length ≤ 3 := by simp; omega
  have := (Wr.num_small rfl h ((hb.drop _).take _)).1
  omega
theorem typAt_bd {zs : List Int} (hb : Byt zs) (p : Nat) : 0 ≤ typAt zs p ∧ typAt zs p ≤ 65535 := by
  unfold typAt
  have h := Wr.num_bd _ ((zs.drop p).take 2) rfl ((hb.drop _).take _)
  have h2 : ((zs.drop p).take 2).length ≤ 2 := by simp; omega
  have h3 : (256 : Int) ^ ((zs.drop p).take 2).length ≤ 256 ^ 2 := by
    have : ((zs.drop p).take 2).length = 0 ∨ ((zs.drop p).take 2).length = 1 ∨ ((zs.drop p).take 2).length = 2 := by omega
    rcases this with h | h | h <;> rw [h] <;> decide
  omega

theorem bb_cell {w : World} {b : Nat} {cs : Array Value} {t : TypeId} (h : w.heap[b]? = some (.cells cs t (0, 0))) (j : Nat) : w.cell? ⟨b, j, none⟩ = cs[j]? := by simp [World.cell?, h]
theorem bb_frozen {w : World} {b : Nat} {cs : Array Value} {t : TypeId} (h : w.heap[b]? = some (.cells cs t (0, 0))) (j : Nat) : w.frozen? ⟨b, j, none⟩ = false := by simp [World.frozen?, h]
theorem load_frame (b : Nat) (x y : Value) (w : World) (h0 : w.cell? ⟨b, 0, none⟩ = some x) (h1 : w.cell? ⟨b, 1, none⟩ = some y) : (loadVar 48 ⟨b, 0, none⟩).run Tryd.prog w = .ok (.agg #[x, y]) w := by
  have hl : (loadCells ⟨b, 0, none⟩ 2).run Tryd.prog w = .ok #[x, y] w := run_loadCells_list (P := Tryd.prog) (w := w) ⟨b, 0, none⟩ [x, y] (fun j v hj => by
    match j, hj with
    | 0, hj => cases hj; exact h0
    | 1, hj => cases hj; exact h1)
  simp [loadVar, isAgg, underlying, Tryd.underlying48, hl, Result.andThen]

set_option maxHeartbeats 8000000 in
theorem read_ok1 (a : Option Addr) (n c : Nat) (zs : List Int) (p : Nat) (w : World) (hx : Ints .u8 w a n c zs) (hb : Byt zs) (hp : p < n) (hn : n ≤ 1000000) (h4 : p + 4 ≤ n) (hm4 : 4 ≤ lenAt zs p) (hmn : p + lenAt zs p = n) :
    Calls Tryd.prog 22 #[.slice a n c, .int .i64 p] w fun e w' => ∃ a' c', e = .returned (.tuple #[.agg #[.int .u16 (typAt zs p), .slice a' (lenAt zs p - 4) c'], .int .i64 (n : Int), .nilIface]) ∧ Ints .u8 w' a' (lenAt zs p - 4) c' (valAt zs p) ∧ (∀ x, a' = some x → w.heap.size ≤ x.block ∧ x.block < w'.heap.size) ∧ Below w.heap.size w w' := by
  have hxs := hx.sub (lo := p) (hi := n) (by omega) (Nat.le_refl _)
  rw [List.take_of_length_le (by rw [hx.len]; exact Nat.le_refl _)] at hxs
  have hcap := hx.cap
  have HX := Lib.hid hx
  have HL := Lib.hid hx.len
  obtain ⟨b, off, rfl⟩ : ∃ b off, a = some ⟨b, off, none⟩ := by
    rcases hx.cells with ⟨h, _⟩ | ⟨b, off, h, _⟩
    · omega
    · exact ⟨b, off, h⟩
  simp only [Option.map_some, Addr.add_lit] at hxs
  have HXS := Lib.hid hxs
  have HB := Lib.hid hb
  have HBD := Lib.hid (hb.drop p)
  have hmb := lenAt_bd hb p
  have wt : IntKind.u16.wrap (typAt zs p) = typAt zs p := by have := typAt_bd hb p; rw [IntKind.wrap_u16]; omega
  have e1 : Wr.numB (n - p) 0 2 = true := by simp [Wr.numB, Wr.rightB]; omega
  have e2 : Wr.numN (zs.drop p) (n - p) 0 2 = typAt zs p := by rw [Wr.numN, if_pos e1]; simp [typAt]
  have e3 : Wr.numA (n - p) 0 2 = 2 := by rw [Wr.numA, if_pos e1]; rfl
  have e4 : Wr.numB (n - p) 2 2 = true := by simp [Wr.numB, Wr.rightB]; omega
  have e5 : Wr.numN (zs.drop p) (n - p) 2 2 = (lenAt zs p : Int) := by rw [Wr.numN, if_pos e4, ← lenAt_eq hb]; simp [List.drop_drop]
  have e6 : Wr.numA (n - p) 2 2 = 4 := by rw [Wr.numA, if_pos e4]; rfl
  have d1 : decide ((p : Int) + (lenAt zs p : Int) = n) = true := decide_eq_true (by omega)
  clear hx hxs hb
  go_enter Tryd.func22, Tryd.ntmps22
  go_wp2_with fail
  obtain ⟨w0, hw0⟩ : ∃ w0, w.alloc (.cells #[.int .u16 0, .slice none 0 0] 48) = w0 := ⟨_, rfl⟩
  rw [hw0]
  have HB0 := Lib.hid (show Below w.heap.size w w0 by rw [← hw0]; exact (Below.refl _ w).alloc (Nat.le_refl _) _)
  have hs0 : w0.heap.size = w.heap.size + 1 := by rw [← hw0]; simp
  have HR0 := Lib.hid (show w0.heap[w.heap.size]? = some (.cells #[.int .u16 0, .slice none 0 0] 48 (0, 0)) by rw [← hw0]; exact Array.getElem?_push_size)
  clear hw0
  refine (Wr.new_any _ _ _ _ _ (HXS.out.below HB0.out) HBD.out (by omega)).mono ?_
  rintro e w1 ⟨bc, ac, cc, rfl, hbc, hcur, hb1, hbe⟩
  have HC1 := Lib.hid hcur
  have HB1 := Lib.hid hb1
  have HBC := Lib.hid hbc
  clear hcur hb1 hbe hbc
  go_wp2_with fail
  refine (Wr.number_any _ _ _ _ _ 2 _ _ HC1.out).mono ?_
  rintro e w2 ⟨rfl, hcur, hbut⟩
  have HC2 := Lib.hid hcur
  have HB2 := Lib.hid (HB1.out.trans (hbut.below HBC.out HB1.out.size))
  clear hcur hbut
  rw [e1, e2]
  rw [e3] at HC2
  go_wp2_with fail
  refine (Wr.number_any _ _ _ _ _ 2 _ _ HC2.out).mono ?_
  rintro e w3 ⟨rfl, hcur, hbut⟩
  have HC3 := Lib.hid hcur
  have HB3 := Lib.hid (HB2.out.trans (hbut.below HBC.out HB2.out.size))
  clear hcur hbut
  rw [e4, e5]
  rw [e6] at HC3
  go_wp2_with fail
  rw [show (lenAt zs p : Int) - 4 = ((lenAt zs p - 4 : Nat) : Int) by omega]
  refine (Wr.take_yes _ _ _ _ _ (lenAt zs p - 4) _ _ HC3.out (by omega)).mono ?_
  rintro e w4 ⟨a4, c4, rfl, ho4, hcur, hbut⟩
  rw [show ((zs.drop p).drop 4).take (lenAt zs p - 4) = valAt zs p by rw [List.drop_drop]; rfl] at ho4
  have HO4 := Lib.hid (ints_of ho4)
  have HOG := Lib.hid (Wr.own_ge ho4)
  have HOL := Lib.hid (Wr.own_lt ho4)
  have HB4 := Lib.hid (HB3.out.trans (hbut.below HBC.out HB3.out.size))
  clear hcur hbut ho4
  go_wp2_with fail
  refine (Pd.next_any _ _ _ _ _ _ (HX.out.below (HB0.out.trans (HB4.out.mono HB0.out.size))) (by omega)).mono ?_
  rintro e w5 ⟨rfl, rfl⟩
  have hblk := (HB4.out.block w.heap.size (by omega)).trans HR0.out
  have q0 := bb_cell hblk 0
  have q1 := bb_cell hblk 1
  have f0 := bb_frozen hblk 0
  have f1 := bb_frozen hblk 1
  clear hblk
  go_wp2
  obtain ⟨wz, hwz⟩ : ∃ wz, (w4.setCell ⟨w.heap.size, 0, none⟩ (.int .u16 (typAt zs p))).setCell ⟨w.heap.size, 1, none⟩ (.slice a4 (lenAt zs p - 4) c4) = wz := ⟨_, rfl⟩
  rw [hwz]
  have hz1 : wz.cell? ⟨w.heap.size, 1, none⟩ = some (.slice a4 (lenAt zs p - 4) c4) := by
    rw [← hwz]
    exact World.cell?_setCell_same _ _ _ ((World.cell?_setCell_other _ _ _ _ (show (⟨w.heap.size, 0, none⟩ : Addr) ≠ ⟨w.heap.size, 1, none⟩ by simp)).trans q1)
  have hz0 : wz.cell? ⟨w.heap.size, 0, none⟩ = some (.int .u16 (typAt zs p)) := by
    rw [← hwz, World.cell?_setCell_other _ _ _ _ (show (⟨w.heap.size, 1, none⟩ : Addr) ≠ ⟨w.heap.size, 0, none⟩ by simp)]
    exact World.cell?_setCell_same _ _ _ q0
  have HST := Lib.hid (show Below w.heap.size w4 wz by rw [← hwz]; exact ((Below.refl w.heap.size w4).setCell (p := ⟨w.heap.size, 0, none⟩) (Nat.le_refl _) _).setCell (p := ⟨w.heap.size, 1, none⟩) (Nat.le_refl _) _)
  have HBT := Lib.hid (show Wr.But w.heap.size w4 wz by rw [← hwz]; exact (Wr.But.set w.heap.size 0 _ _).trans (Wr.But.set w.heap.size 1 _ _))
  have HFIN := Lib.hid ((HB0.out.trans (HB4.out.mono HB0.out.size)).trans HST.out)
  have hld := load_frame w.heap.size _ _ wz hz0 hz1
  refine bodyPost_ret (v := .tuple #[.agg #[.int .u16 (typAt zs p), .slice a4 (lenAt zs p - 4) c4], .int .i64 ((p : Int) + (lenAt zs p : Int)), .nilIface]) ?_ rfl ?_
  · rw [results_cell3 rfl]
    simp [asAddr, Result.andThen, hld]
  · exact ⟨a4, c4, by rw [show (p : Int) + (lenAt zs p : Int) = (n : Int) by omega], HO4.out.but HBT.out (fun x hx => by have h1 := HOG.out x hx; have h2 := HB3.out.size; omega), (fun x hx => by have h1 := HOG.out x hx; have h2 := HB3.out.size; have h3 := HOL.out x hx; have h4 := HST.out.size; omega), HFIN.out⟩

set_option maxHeartbeats 8000000 in
theorem read_ok2 (a : Option Addr) (n c : Nat) (zs : List Int) (p : Nat) (w : World) (hx : Ints .u8 w a n c zs) (hb : Byt zs) (hp : p < n) (hn : n ≤ 1000000) (h4 : p + 4 ≤ n) (hm4 : 4 ≤ lenAt zs p) (hmn : p + lenAt zs p < n) (hnb : Pd.nextB zs ((p : Int) + (lenAt zs p : Int)) = true) (hne : ((p : Int) + (lenAt zs p : Int) + Pd.gap ((p : Int) + (lenAt zs p : Int))) ≠ n) :
    Calls Tryd.prog 22 #[.slice a n c, .int .i64 p] w fun e w' => ∃ a' c', e = .returned (.tuple #[.agg #[.int .u16 (typAt zs p), .slice a' (lenAt zs p - 4) c'], .int .i64 ((p : Int) + (lenAt zs p : Int) + Pd.gap ((p : Int) + (lenAt zs p : Int))), .nilIface]) ∧ Ints .u8 w' a' (lenAt zs p - 4) c' (valAt zs p) ∧ (∀ x, a' = some x → w.heap.size ≤ x.block ∧ x.block < w'.heap.size) ∧ Below w.heap.size w w' := by
  have hxs := hx.sub (lo := p) (hi := n) (by omega) (Nat.le_refl _)
  rw [List.take_of_length_le (by rw [hx.len]; exact Nat.le_refl _)] at hxs
  have hcap := hx.cap
  have HX := Lib.hid hx
  have HL := Lib.hid hx.len
  obtain ⟨b, off, rfl⟩ : ∃ b off, a = some ⟨b, off, none⟩ := by
    rcases hx.cells with ⟨h, _⟩ | ⟨b, off, h, _⟩
    · omega
    · exact ⟨b, off, h⟩
  simp only [Option.map_some, Addr.add_lit] at hxs
  have HXS := Lib.hid hxs
  have HB := Lib.hid hb
  have HBD := Lib.hid (hb.drop p)
  have hmb := lenAt_bd hb p
  have wt : IntKind.u16.wrap (typAt zs p) = typAt zs p := by have := typAt_bd hb p; rw [IntKind.wrap_u16]; omega
  have e1 : Wr.numB (n - p) 0 2 = true := by simp [Wr.numB, Wr.rightB]; omega
  have e2 : Wr.numN (zs.drop p) (n - p) 0 2 = typAt zs p := by rw [Wr.numN, if_pos e1]; simp [typAt]
  have e3 : Wr.numA (n - p) 0 2 = 2 := by rw [Wr.numA, if_pos e1]; rfl
  have e4 : Wr.numB (n - p) 2 2 = true := by simp [Wr.numB, Wr.rightB]; omega
  have e5 : Wr.numN (zs.drop p) (n - p) 2 2 = (lenAt zs p : Int) := by rw [Wr.numN, if_pos e4, ← lenAt_eq hb]; simp [List.drop_drop]
  have e6 : Wr.numA (n - p) 2 2 = 4 := by rw [Wr.numA, if_pos e4]; rfl
  have d1 : decide ((p : Int) + (lenAt zs p : Int) = n) = false := decide_eq_false (by omega)
  have hnn := Pd.next_yes hnb
  have d2 : decide (((p : Int) + (lenAt zs p : Int) + Pd.gap ((p : Int) + (lenAt zs p : Int))) = (n : Int)) = false := decide_eq_false hne
  clear hx hxs hb
  go_enter Tryd.func22, Tryd.ntmps22
  go_wp2_with fail
  obtain ⟨w0, hw0⟩ : ∃ w0, w.alloc (.cells #[.int .u16 0, .slice none 0 0] 48) = w0 := ⟨_, rfl⟩
  rw [hw0]
  have HB0 := Lib.hid (show Below w.heap.size w w0 by rw [← hw0]; exact (Below.refl _ w).alloc (Nat.le_refl _) _)
  have hs0 : w0.heap.size = w.heap.size + 1 := by rw [← hw0]; simp
  have HR0 := Lib.hid (show w0.heap[w.heap.size]? = some (.cells #[.int .u16 0, .slice none 0 0] 48 (0, 0)) by rw [← hw0]; exact Array.getElem?_push_size)
  clear hw0
  refine (Wr.new_any _ _ _ _ _ (HXS.out.below HB0.out) HBD.out (by omega)).mono ?_
  rintro e w1 ⟨bc, ac, cc, rfl, hbc, hcur, hb1, hbe⟩
  have HC1 := Lib.hid hcur
  have HB1 := Lib.hid hb1
  have HBC := Lib.hid hbc
  clear hcur hb1 hbe hbc
  go_wp2_with fail
  refine (Wr.number_any _ _ _ _ _ 2 _ _ HC1.out).mono ?_
  rintro e w2 ⟨rfl, hcur, hbut⟩
  have HC2 := Lib.hid hcur
  have HB2 := Lib.hid (HB1.out.trans (hbut.below HBC.out HB1.out.size))
  clear hcur hbut
  rw [e1, e2]
  rw [e3] at HC2
  go_wp2_with fail
  refine (Wr.number_any _ _ _ _ _ 2 _ _ HC2.out).mono ?_
  rintro e w3 ⟨rfl, hcur, hbut⟩
  have HC3 := Lib.hid hcur
  have HB3 := Lib.hid (HB2.out.trans (hbut.below HBC.out HB2.out.size))
  clear hcur hbut
  rw [e4, e5]
  rw [e6] at HC3
  go_wp2_with fail
  rw [show (lenAt zs p : Int) - 4 = ((lenAt zs p - 4 : Nat) : Int) by omega]
  refine (Wr.take_yes _ _ _ _ _ (lenAt zs p - 4) _ _ HC3.out (by omega)).mono ?_
  rintro e w4 ⟨a4, c4, rfl, ho4, hcur, hbut⟩
  rw [show ((zs.drop p).drop 4).take (lenAt zs p - 4) = valAt zs p by rw [List.drop_drop]; rfl] at ho4
  have HO4 := Lib.hid (ints_of ho4)
  have HOG := Lib.hid (Wr.own_ge ho4)
  have HOL := Lib.hid (Wr.own_lt ho4)
  have HB4 := Lib.hid (HB3.out.trans (hbut.below HBC.out HB3.out.size))
  clear hcur hbut ho4
  go_wp2_with fail
  refine (Pd.next_any _ _ _ _ _ _ (HX.out.below (HB0.out.trans (HB4.out.mono HB0.out.size))) (by omega)).mono ?_
  rintro e w5 ⟨rfl, rfl⟩
  rw [hnb, hnn]
  have hblk := (HB4.out.block w.heap.size (by omega)).trans HR0.out
  have q0 := bb_cell hblk 0
  have q1 := bb_cell hblk 1
  have f0 := bb_frozen hblk 0
  have f1 := bb_frozen hblk 1
  clear hblk
  go_wp2
  obtain ⟨wz, hwz⟩ : ∃ wz, (w4.setCell ⟨w.heap.size, 0, none⟩ (.int .u16 (typAt zs p))).setCell ⟨w.heap.size, 1, none⟩ (.slice a4 (lenAt zs p - 4) c4) = wz := ⟨_, rfl⟩
  rw [hwz]
  have hz1 : wz.cell? ⟨w.heap.size, 1, none⟩ = some (.slice a4 (lenAt zs p - 4) c4) := by
    rw [← hwz]
    exact World.cell?_setCell_same _ _ _ ((World.cell?_setCell_other _ _ _ _ (show (⟨w.heap.size, 0, none⟩ : Addr) ≠ ⟨w.heap.size, 1, none⟩ by simp)).trans q1)
  have hz0 : wz.cell? ⟨w.heap.size, 0, none⟩ = some (.int .u16 (typAt zs p)) := by
    rw [← hwz, World.cell?_setCell_other _ _ _ _ (show (⟨w.heap.size, 1, none⟩ : Addr) ≠ ⟨w.heap.size, 0, none⟩ by simp)]
    exact World.cell?_setCell_same _ _ _ q0
  have HST := Lib.hid (show Below w.heap.size w4 wz by rw [← hwz]; exact ((Below.refl w.heap.size w4).setCell (p := ⟨w.heap.size, 0, none⟩) (Nat.le_refl _) _).setCell (p := ⟨w.heap.size, 1, none⟩) (Nat.le_refl _) _)
  have HBT := Lib.hid (show Wr.But w.heap.size w4 wz by rw [← hwz]; exact (Wr.But.set w.heap.size 0 _ _).trans (Wr.But.set w.heap.size 1 _ _))
  have HFIN := Lib.hid ((HB0.out.trans (HB4.out.mono HB0.out.size)).trans HST.out)
  have hld := load_frame w.heap.size _ _ wz hz0 hz1
  refine bodyPost_ret (v := .tuple #[.agg #[.int .u16 (typAt zs p), .slice a4 (lenAt zs p - 4) c4], .int .i64 ((p : Int) + (lenAt zs p : Int) + Pd.gap ((p : Int) + (lenAt zs p : Int))), .nilIface]) ?_ rfl ?_
  · rw [results_cell3 rfl]
    simp [asAddr, Result.andThen, hld]
  · exact ⟨a4, c4, rfl, HO4.out.but HBT.out (fun x hx => by have h1 := HOG.out x hx; have h2 := HB3.out.size; omega), (fun x hx => by have h1 := HOG.out x hx; have h2 := HB3.out.size; have h3 := HOL.out x hx; have h4 := HST.out.size; omega), HFIN.out⟩

set_option maxHeartbeats 8000000 in
theorem read_pad1 (a : Option Addr) (n c : Nat) (zs : List Int) (p : Nat) (w : World) (hx : Ints .u8 w a n c zs) (hb : Byt zs) (hp : p < n) (hn : n ≤ 1000000) (h4 : p + 4 ≤ n) (hm4 : 4 ≤ lenAt zs p) (hmn : p + lenAt zs p < n) (hnb : Pd.nextB zs ((p : Int) + (lenAt zs p : Int)) = false) :
    Calls Tryd.prog 22 #[.slice a n c, .int .i64 p] w fun e w' => e = .returned (.tuple #[.agg #[.int .u16 0, .slice none 0 0], .int .i64 0, .iface (Er.EV.flt 5 ((p : Int) + (lenAt zs p : Int))).ty (Er.EV.flt 5 ((p : Int) + (lenAt zs p : Int))).body]) ∧ Below w.heap.size w w' := by
  have hxs := hx.sub (lo := p) (hi := n) (by omega) (Nat.le_refl _)
  rw [List.take_of_length_le (by rw [hx.len]; exact Nat.le_refl _)] at hxs
  have hcap := hx.cap
  have HX := Lib.hid hx
  have HL := Lib.hid hx.len
  obtain ⟨b, off, rfl⟩ : ∃ b off, a = some ⟨b, off, none⟩ := by
    rcases hx.cells with ⟨h, _⟩ | ⟨b, off, h, _⟩
    · omega
    · exact ⟨b, off, h⟩
  simp only [Option.map_some, Addr.add_lit] at hxs
  have HXS := Lib.hid hxs
  have HB := Lib.hid hb
  have HBD := Lib.hid (hb.drop p)
  have hmb := lenAt_bd hb p
  have wt : IntKind.u16.wrap (typAt zs p) = typAt zs p := by have := typAt_bd hb p; rw [IntKind.wrap_u16]; omega
  have e1 : Wr.numB (n - p) 0 2 = true := by simp [Wr.numB, Wr.rightB]; omega
  have e2 : Wr.numN (zs.drop p) (n - p) 0 2 = typAt zs p := by rw [Wr.numN, if_pos e1]; simp [typAt]
  have e3 : Wr.numA (n - p) 0 2 = 2 := by rw [Wr.numA, if_pos e1]; rfl
  have e4 : Wr.numB (n - p) 2 2 = true := by simp [Wr.numB, Wr.rightB]; omega
  have e5 : Wr.numN (zs.drop p) (n - p) 2 2 = (lenAt zs p : Int) := by rw [Wr.numN, if_pos e4, ← lenAt_eq hb]; simp [List.drop_drop]
  have e6 : Wr.numA (n - p) 2 2 = 4 := by rw [Wr.numA, if_pos e4]; rfl
  have d1 : decide ((p : Int) + (lenAt zs p : Int) = n) = false := decide_eq_false (by omega)
  have hnn := Pd.next_no hnb
  clear hx hxs hb
  go_enter Tryd.func22, Tryd.ntmps22
  go_wp2_with fail
  obtain ⟨w0, hw0⟩ : ∃ w0, w.alloc (.cells #[.int .u16 0, .slice none 0 0] 48) = w0 := ⟨_, rfl⟩
  rw [hw0]
  have HB0 := Lib.hid (show Below w.heap.size w w0 by rw [← hw0]; exact (Below.refl _ w).alloc (Nat.le_refl _) _)
  have hs0 : w0.heap.size = w.heap.size + 1 := by rw [← hw0]; simp
  have HR0 := Lib.hid (show w0.heap[w.heap.size]? = some (.cells #[.int .u16 0, .slice none 0 0] 48 (0, 0)) by rw [← hw0]; exact Array.getElem?_push_size)
  clear hw0
  refine (Wr.new_any _ _ _ _ _ (HXS.out.below HB0.out) HBD.out (by omega)).mono ?_
  rintro e w1 ⟨bc, ac, cc, rfl, hbc, hcur, hb1, hbe⟩
  have HC1 := Lib.hid hcur
  have HB1 := Lib.hid hb1
  have HBC := Lib.hid hbc
  clear hcur hb1 hbe hbc
  go_wp2_with fail
  refine (Wr.number_any _ _ _ _ _ 2 _ _ HC1.out).mono ?_
  rintro e w2 ⟨rfl, hcur, hbut⟩
  have HC2 := Lib.hid hcur
  have HB2 := Lib.hid (HB1.out.trans (hbut.below HBC.out HB1.out.size))
  clear hcur hbut
  rw [e1, e2]
  rw [e3] at HC2
  go_wp2_with fail
  refine (Wr.number_any _ _ _ _ _ 2 _ _ HC2.out).mono ?_
  rintro e w3 ⟨rfl, hcur, hbut⟩
  have HC3 := Lib.hid hcur
  have HB3 := Lib.hid (HB2.out.trans (hbut.below HBC.out HB2.out.size))
  clear hcur hbut
  rw [e4, e5]
  rw [e6] at HC3
  go_wp2_with fail
  rw [show (lenAt zs p : Int) - 4 = ((lenAt zs p - 4 : Nat) : Int) by omega]
  refine (Wr.take_yes _ _ _ _ _ (lenAt zs p - 4) _ _ HC3.out (by omega)).mono ?_
  rintro e w4 ⟨a4, c4, rfl, ho4, hcur, hbut⟩
  rw [show ((zs.drop p).drop 4).take (lenAt zs p - 4) = valAt zs p by rw [List.drop_drop]; rfl] at ho4
  have HO4 := Lib.hid (ints_of ho4)
  have HOG := Lib.hid (Wr.own_ge ho4)
  have HOL := Lib.hid (Wr.own_lt ho4)
  have HB4 := Lib.hid (HB3.out.trans (hbut.below HBC.out HB3.out.size))
  clear hcur hbut ho4
  go_wp2_with fail
  refine (Pd.next_any _ _ _ _ _ _ (HX.out.below (HB0.out.trans (HB4.out.mono HB0.out.size))) (by omega)).mono ?_
  rintro e w5 ⟨rfl, rfl⟩
  rw [hnb, hnn]
  have hblk := (HB4.out.block w.heap.size (by omega)).trans HR0.out
  have q0 := bb_cell hblk 0
  have q1 := bb_cell hblk 1
  have f0 := bb_frozen hblk 0
  have f1 := bb_frozen hblk 1
  clear hblk
  go_wp2_with fail
  refine (Er.new_any 5 ((p : Int) + (lenAt zs p : Int)) _).mono ?_
  rintro e w9 ⟨rfl, rfl⟩
  go_wp2
  obtain ⟨wz, hwz⟩ : ∃ wz, (w4.setCell ⟨w.heap.size, 0, none⟩ (.int .u16 0)).setCell ⟨w.heap.size, 1, none⟩ (.slice none 0 0) = wz := ⟨_, rfl⟩
  rw [hwz]
  have hz1 : wz.cell? ⟨w.heap.size, 1, none⟩ = some (.slice none 0 0) := by
    rw [← hwz]
    exact World.cell?_setCell_same _ _ _ ((World.cell?_setCell_other _ _ _ _ (show (⟨w.heap.size, 0, none⟩ : Addr) ≠ ⟨w.heap.size, 1, none⟩ by simp)).trans q1)
  have hz0 : wz.cell? ⟨w.heap.size, 0, none⟩ = some (.int .u16 0) := by
    rw [← hwz, World.cell?_setCell_other _ _ _ _ (show (⟨w.heap.size, 1, none⟩ : Addr) ≠ ⟨w.heap.size, 0, none⟩ by simp)]
    exact World.cell?_setCell_same _ _ _ q0
  have HST := Lib.hid (show Below w.heap.size w4 wz by rw [← hwz]; exact ((Below.refl w.heap.size w4).setCell (p := ⟨w.heap.size, 0, none⟩) (Nat.le_refl _) _).setCell (p := ⟨w.heap.size, 1, none⟩) (Nat.le_refl _) _)
  have HBT := Lib.hid (show Wr.But w.heap.size w4 wz by rw [← hwz]; exact (Wr.But.set w.heap.size 0 _ _).trans (Wr.But.set w.heap.size 1 _ _))
  have HFIN := Lib.hid ((HB0.out.trans (HB4.out.mono HB0.out.size)).trans HST.out)
  have hld := load_frame w.heap.size _ _ wz hz0 hz1
  refine bodyPost_ret (v := .tuple #[.agg #[.int .u16 0, .slice none 0 0], .int .i64 0, .iface (Er.EV.flt 5 ((p : Int) + (lenAt zs p : Int))).ty (Er.EV.flt 5 ((p : Int) + (lenAt zs p : Int))).body]) ?_ rfl ?_
  · rw [results_cell3 rfl]
    simp [asAddr, Result.andThen, hld]
  · exact ⟨rfl, HFIN.out⟩

set_option maxHeartbeats 8000000 in
theorem read_pad2 (a : Option Addr) (n c : Nat) (zs : List Int) (p : Nat) (w : World) (hx : Ints .u8 w a n c zs) (hb : Byt zs) (hp : p < n) (hn : n ≤ 1000000) (h4 : p + 4 ≤ n) (hm4 : 4 ≤ lenAt zs p) (hmn : p + lenAt zs p < n) (hnb : Pd.nextB zs ((p : Int) + (lenAt zs p : Int)) = true) (hne : ((p : Int) + (lenAt zs p : Int) + Pd.gap ((p : Int) + (lenAt zs p : Int))) = n) :
    Calls Tryd.prog 22 #[.slice a n c, .int .i64 p] w fun e w' => e = .returned (.tuple #[.agg #[.int .u16 0, .slice none 0 0], .int .i64 0, .iface (Er.EV.flt 5 ((p : Int) + (lenAt zs p : Int))).ty (Er.EV.flt 5 ((p : Int) + (lenAt zs p : Int))).body]) ∧ Below w.heap.size w w' := by
  have hxs := hx.sub (lo := p) (hi := n) (by omega) (Nat.le_refl _)
  rw [List.take_of_length_le (by rw [hx.len]; exact Nat.le_refl _)] at hxs
  have hcap := hx.cap
  have HX := Lib.hid hx
  have HL := Lib.hid hx.len
  obtain ⟨b, off, rfl⟩ : ∃ b off, a = some ⟨b, off, none⟩ := by
    rcases hx.cells with ⟨h, _⟩ | ⟨b, off, h, _⟩
    · omega
    · exact ⟨b, off, h⟩
  simp only [Option.map_some, Addr.add_lit] at hxs
  have HXS := Lib.hid hxs
  have HB := Lib.hid hb
  have HBD := Lib.hid (hb.drop p)
  have hmb := lenAt_bd hb p
  have wt : IntKind.u16.wrap (typAt zs p) = typAt zs p := by have := typAt_bd hb p; rw [IntKind.wrap_u16]; omega
  have e1 : Wr.numB (n - p) 0 2 = true := by simp [Wr.numB, Wr.rightB]; omega
  have e2 : Wr.numN (zs.drop p) (n - p) 0 2 = typAt zs p := by rw [Wr.numN, if_pos e1]; simp [typAt]
  have e3 : Wr.numA (n - p) 0 2 = 2 := by rw [Wr.numA, if_pos e1]; rfl
  have e4 : Wr.numB (n - p) 2 2 = true := by simp [Wr.numB, Wr.rightB]; omega
  have e5 : Wr.numN (zs.drop p) (n - p) 2 2 = (lenAt zs p : Int) := by rw [Wr.numN, if_pos e4, ← lenAt_eq hb]; simp [List.drop_drop]
  have e6 : Wr.numA (n - p) 2 2 = 4 := by rw [Wr.numA, if_pos e4]; rfl
  have d1 : decide ((p : Int) + (lenAt zs p : Int) = n) = false := decide_eq_false (by omega)
  have hnn := Pd.next_yes hnb
  have d2 : decide (((p : Int) + (lenAt zs p : Int) + Pd.gap ((p : Int) + (lenAt zs p : Int))) = (n : Int)) = true := decide_eq_true hne
  clear hx hxs hb
  go_enter Tryd.func22, Tryd.ntmps22
  go_wp2_with fail
  obtain ⟨w0, hw0⟩ : ∃ w0, w.alloc (.cells #[.int .u16 0, .slice none 0 0] 48) = w0 := ⟨_, rfl⟩
  rw [hw0]
  have HB0 := Lib.hid (show Below w.heap.size w w0 by rw [← hw0]; exact (Below.refl _ w).alloc (Nat.le_refl _) _)
  have hs0 : w0.heap.size = w.heap.size + 1 := by rw [← hw0]; simp
  have HR0 := Lib.hid (show w0.heap[w.heap.size]? = some (.cells #[.int .u16 0, .slice none 0 0] 48 (0, 0)) by rw [← hw0]; exact Array.getElem?_push_size)
  clear hw0
  refine (Wr.new_any _ _ _ _ _ (HXS.out.below HB0.out) HBD.out (by omega)).mono ?_
  rintro e w1 ⟨bc, ac, cc, rfl, hbc, hcur, hb1, hbe⟩
  have HC1 := Lib.hid hcur
  have HB1 := Lib.hid hb1
  have HBC := Lib.hid hbc
  clear hcur hb1 hbe hbc
  go_wp2_with fail
  refine (Wr.number_any _ _ _ _ _ 2 _ _ HC1.out).mono ?_
  rintro e w2 ⟨rfl, hcur, hbut⟩
  have HC2 := Lib.hid hcur
  have HB2 := Lib.hid (HB1.out.trans (hbut.below HBC.out HB1.out.size))
  clear hcur hbut
  rw [e1, e2]
  rw [e3] at HC2
  go_wp2_with fail
  refine (Wr.number_any _ _ _ _ _ 2 _ _ HC2.out).mono ?_
  rintro e w3 ⟨rfl, hcur, hbut⟩
  have HC3 := Lib.hid hcur
  have HB3 := Lib.hid (HB2.out.trans (hbut.below HBC.out HB2.out.size))
  clear hcur hbut
  rw [e4, e5]
  rw [e6] at HC3
  go_wp2_with fail
  rw [show (lenAt zs p : Int) - 4 = ((lenAt zs p - 4 : Nat) : Int) by omega]
  refine (Wr.take_yes _ _ _ _ _ (lenAt zs p - 4) _ _ HC3.out (by omega)).mono ?_
  rintro e w4 ⟨a4, c4, rfl, ho4, hcur, hbut⟩
  rw [show ((zs.drop p).drop 4).take (lenAt zs p - 4) = valAt zs p by rw [List.drop_drop]; rfl] at ho4
  have HO4 := Lib.hid (ints_of ho4)
  have HOG := Lib.hid (Wr.own_ge ho4)
  have HOL := Lib.hid (Wr.own_lt ho4)
  have HB4 := Lib.hid (HB3.out.trans (hbut.below HBC.out HB3.out.size))
  clear hcur hbut ho4
  go_wp2_with fail
  refine (Pd.next_any _ _ _ _ _ _ (HX.out.below (HB0.out.trans (HB4.out.mono HB0.out.size))) (by omega)).mono ?_
  rintro e w5 ⟨rfl, rfl⟩
  rw [hnb, hnn]
  have hblk := (HB4.out.block w.heap.size (by omega)).trans HR0.out
  have q0 := bb_cell hblk 0
  have q1 := bb_cell hblk 1
  have f0 := bb_frozen hblk 0
  have f1 := bb_frozen hblk 1
  clear hblk
  go_wp2_with fail
  refine (Er.new_any 5 ((p : Int) + (lenAt zs p : Int)) _).mono ?_
  rintro e w9 ⟨rfl, rfl⟩
  go_wp2
  obtain ⟨wz, hwz⟩ : ∃ wz, (w4.setCell ⟨w.heap.size, 0, none⟩ (.int .u16 0)).setCell ⟨w.heap.size, 1, none⟩ (.slice none 0 0) = wz := ⟨_, rfl⟩
  rw [hwz]
  have hz1 : wz.cell? ⟨w.heap.size, 1, none⟩ = some (.slice none 0 0) := by
    rw [← hwz]
    exact World.cell?_setCell_same _ _ _ ((World.cell?_setCell_other _ _ _ _ (show (⟨w.heap.size, 0, none⟩ : Addr) ≠ ⟨w.heap.size, 1, none⟩ by simp)).trans q1)
  have hz0 : wz.cell? ⟨w.heap.size, 0, none⟩ = some (.int .u16 0) := by
    rw [← hwz, World.cell?_setCell_other _ _ _ _ (show (⟨w.heap.size, 1, none⟩ : Addr) ≠ ⟨w.heap.size, 0, none⟩ by simp)]
    exact World.cell?_setCell_same _ _ _ q0
  have HST := Lib.hid (show Below w.heap.size w4 wz by rw [← hwz]; exact ((Below.refl w.heap.size w4).setCell (p := ⟨w.heap.size, 0, none⟩) (Nat.le_refl _) _).setCell (p := ⟨w.heap.size, 1, none⟩) (Nat.le_refl _) _)
  have HBT := Lib.hid (show Wr.But w.heap.size w4 wz by rw [← hwz]; exact (Wr.But.set w.heap.size 0 _ _).trans (Wr.But.set w.heap.size 1 _ _))
  have HFIN := Lib.hid ((HB0.out.trans (HB4.out.mono HB0.out.size)).trans HST.out)
  have hld := load_frame w.heap.size _ _ wz hz0 hz1
  refine bodyPost_ret (v := .tuple #[.agg #[.int .u16 0, .slice none 0 0], .int .i64 0, .iface (Er.EV.flt 5 ((p : Int) + (lenAt zs p : Int))).ty (Er.EV.flt 5 ((p : Int) + (lenAt zs p : Int))).body]) ?_ rfl ?_
  · rw [results_cell3 rfl]
    simp [asAddr, Result.andThen, hld]
  · exact ⟨rfl, HFIN.out⟩

set_option maxHeartbeats 8000000 in
theorem read_len2 (a : Option Addr) (n c : Nat) (zs : List Int) (p : Nat) (w : World) (hx : Ints .u8 w a n c zs) (hb : Byt zs) (hp : p < n) (hn : n ≤ 1000000) (h4 : p + 4 ≤ n) (hmn : lenAt zs p < 4 ∨ n < p + lenAt zs p) :
    Calls Tryd.prog 22 #[.slice a n c, .int .i64 p] w fun e w' => e = .returned (.tuple #[.agg #[.int .u16 0, .slice none 0 0], .int .i64 0, .iface (Er.EV.flt 4 (p : Int)).ty (Er.EV.flt 4 (p : Int)).body]) ∧ Below w.heap.size w w' := by
  have hxs := hx.sub (lo := p) (hi := n) (by omega) (Nat.le_refl _)
  rw [List.take_of_length_le (by rw [hx.len]; exact Nat.le_refl _)] at hxs
  have hcap := hx.cap
  have HX := Lib.hid hx
  have HL := Lib.hid hx.len
  obtain ⟨b, off, rfl⟩ : ∃ b off, a = some ⟨b, off, none⟩ := by
    rcases hx.cells with ⟨h, _⟩ | ⟨b, off, h, _⟩
    · omega
    · exact ⟨b, off, h⟩
  simp only [Option.map_some, Addr.add_lit] at hxs
  have HXS := Lib.hid hxs
  have HB := Lib.hid hb
  have HBD := Lib.hid (hb.drop p)
  have hmb := lenAt_bd hb p
  have wt : IntKind.u16.wrap (typAt zs p) = typAt zs p := by have := typAt_bd hb p; rw [IntKind.wrap_u16]; omega
  have e1 : Wr.numB (n - p) 0 2 = true := by simp [Wr.numB, Wr.rightB]; omega
  have e2 : Wr.numN (zs.drop p) (n - p) 0 2 = typAt zs p := by rw [Wr.numN, if_pos e1]; simp [typAt]
  have e3 : Wr.numA (n - p) 0 2 = 2 := by rw [Wr.numA, if_pos e1]; rfl
  have e4 : Wr.numB (n - p) 2 2 = true := by simp [Wr.numB, Wr.rightB]; omega
  have e5 : Wr.numN (zs.drop p) (n - p) 2 2 = (lenAt zs p : Int) := by rw [Wr.numN, if_pos e4, ← lenAt_eq hb]; simp [List.drop_drop]
  have e6 : Wr.numA (n - p) 2 2 = 4 := by rw [Wr.numA, if_pos e4]; rfl
  clear hx hxs hb
  go_enter Tryd.func22, Tryd.ntmps22
  go_wp2_with fail
  obtain ⟨w0, hw0⟩ : ∃ w0, w.alloc (.cells #[.int .u16 0, .slice none 0 0] 48) = w0 := ⟨_, rfl⟩
  rw [hw0]
  have HB0 := Lib.hid (show Below w.heap.size w w0 by rw [← hw0]; exact (Below.refl _ w).alloc (Nat.le_refl _) _)
  have hs0 : w0.heap.size = w.heap.size + 1 := by rw [← hw0]; simp
  have HR0 := Lib.hid (show w0.heap[w.heap.size]? = some (.cells #[.int .u16 0, .slice none 0 0] 48 (0, 0)) by rw [← hw0]; exact Array.getElem?_push_size)
  clear hw0
  refine (Wr.new_any _ _ _ _ _ (HXS.out.below HB0.out) HBD.out (by omega)).mono ?_
  rintro e w1 ⟨bc, ac, cc, rfl, hbc, hcur, hb1, hbe⟩
  have HC1 := Lib.hid hcur
  have HB1 := Lib.hid hb1
  have HBC := Lib.hid hbc
  clear hcur hb1 hbe hbc
  go_wp2_with fail
  refine (Wr.number_any _ _ _ _ _ 2 _ _ HC1.out).mono ?_
  rintro e w2 ⟨rfl, hcur, hbut⟩
  have HC2 := Lib.hid hcur
  have HB2 := Lib.hid (HB1.out.trans (hbut.below HBC.out HB1.out.size))
  clear hcur hbut
  rw [e1, e2]
  rw [e3] at HC2
  go_wp2_with fail
  refine (Wr.number_any _ _ _ _ _ 2 _ _ HC2.out).mono ?_
  rintro e w3 ⟨rfl, hcur, hbut⟩
  have HC3 := Lib.hid hcur
  have HB3 := Lib.hid (HB2.out.trans (hbut.below HBC.out HB2.out.size))
  clear hcur hbut
  rw [e4, e5]
  rw [e6] at HC3
  go_wp2_with fail
  refine (Wr.take_no _ _ _ _ _ ((lenAt zs p : Int) - 4) _ _ HC3.out (by omega)).mono ?_
  rintro e w4' ⟨rfl, q, rfl⟩
  obtain ⟨w4, hw4⟩ : ∃ w4, w3.drewN q = w4 := ⟨_, rfl⟩
  rw [hw4]
  have HB4 := Lib.hid (show Below w0.heap.size w0 w4 by rw [← hw4]; exact below_drewN HB3.out q)
  clear hw4
  have hblk := (HB4.out.block w.heap.size (by omega)).trans HR0.out
  have q0 := bb_cell hblk 0
  have q1 := bb_cell hblk 1
  have f0 := bb_frozen hblk 0
  have f1 := bb_frozen hblk 1
  clear hblk
  go_wp2_with fail
  refine (Er.new_any 4 (p : Int) _).mono ?_
  rintro e w9 ⟨rfl, rfl⟩
  go_wp2
  obtain ⟨wz, hwz⟩ : ∃ wz, (w4.setCell ⟨w.heap.size, 0, none⟩ (.int .u16 0)).setCell ⟨w.heap.size, 1, none⟩ (.slice none 0 0) = wz := ⟨_, rfl⟩
  rw [hwz]
  have hz1 : wz.cell? ⟨w.heap.size, 1, none⟩ = some (.slice none 0 0) := by
    rw [← hwz]
    exact World.cell?_setCell_same _ _ _ ((World.cell?_setCell_other _ _ _ _ (show (⟨w.heap.size, 0, none⟩ : Addr) ≠ ⟨w.heap.size, 1, none⟩ by simp)).trans q1)
  have hz0 : wz.cell? ⟨w.heap.size, 0, none⟩ = some (.int .u16 0) := by
    rw [← hwz, World.cell?_setCell_other _ _ _ _ (show (⟨w.heap.size, 1, none⟩ : Addr) ≠ ⟨w.heap.size, 0, none⟩ by simp)]
    exact World.cell?_setCell_same _ _ _ q0
  have HST := Lib.hid (show Below w.heap.size w4 wz by rw [← hwz]; exact ((Below.refl w.heap.size w4).setCell (p := ⟨w.heap.size, 0, none⟩) (Nat.le_refl _) _).setCell (p := ⟨w.heap.size, 1, none⟩) (Nat.le_refl _) _)
  have HBT := Lib.hid (show Wr.But w.heap.size w4 wz by rw [← hwz]; exact (Wr.But.set w.heap.size 0 _ _).trans (Wr.But.set w.heap.size 1 _ _))
  have HFIN := Lib.hid ((HB0.out.trans (HB4.out.mono HB0.out.size)).trans HST.out)
  have hld := load_frame w.heap.size _ _ wz hz0 hz1
  refine bodyPost_ret (v := .tuple #[.agg #[.int .u16 0, .slice none 0 0], .int .i64 0, .iface (Er.EV.flt 4 (p : Int)).ty (Er.EV.flt 4 (p : Int)).body]) ?_ rfl ?_
  · rw [results_cell3 rfl]
    simp [asAddr, Result.andThen, hld]
  · exact ⟨rfl, HFIN.out⟩

set_option maxHeartbeats 8000000 in
theorem read_len1 (a : Option Addr) (n c : Nat) (zs : List Int) (p : Nat) (w : World) (hx : Ints .u8 w a n c zs) (hb : Byt zs) (hp : p < n) (hn : n ≤ 1000000) (h4 : n < p + 4) :
    Calls Tryd.prog 22 #[.slice a n c, .int .i64 p] w fun e w' => e = .returned (.tuple #[.agg #[.int .u16 0, .slice none 0 0], .int .i64 0, .iface (Er.EV.flt 4 (p : Int)).ty (Er.EV.flt 4 (p : Int)).body]) ∧ Below w.heap.size w w' := by
  have hxs := hx.sub (lo := p) (hi := n) (by omega) (Nat.le_refl _)
  rw [List.take_of_length_le (by rw [hx.len]; exact Nat.le_refl _)] at hxs
  have hcap := hx.cap
  have HX := Lib.hid hx
  have HL := Lib.hid hx.len
  obtain ⟨b, off, rfl⟩ : ∃ b off, a = some ⟨b, off, none⟩ := by
    rcases hx.cells with ⟨h, _⟩ | ⟨b, off, h, _⟩
    · omega
    · exact ⟨b, off, h⟩
  simp only [Option.map_some, Addr.add_lit] at hxs
  have HXS := Lib.hid hxs
  have HB := Lib.hid hb
  have HBD := Lib.hid (hb.drop p)
  have hmb := lenAt_bd hb p
  have wt : IntKind.u16.wrap (typAt zs p) = typAt zs p := by have := typAt_bd hb p; rw [IntKind.wrap_u16]; omega
  obtain ⟨A, hA⟩ : ∃ A, A = Wr.numA (n - p) 0 2 := ⟨_, rfl⟩
  have e4 : Wr.numB (n - p) A 2 = false := by
    rw [hA, Wr.numA]
    split
    · rename_i h; simp [Wr.numB, Wr.rightB] at h ⊢; omega
    · rename_i h; simp [Wr.numB, Wr.rightB] at h ⊢; omega
  have e5 : Wr.numN (zs.drop p) (n - p) A 2 = 0 := by rw [Wr.numN, e4]; simp
  clear hx hxs hb
  go_enter Tryd.func22, Tryd.ntmps22
  go_wp2_with fail
  obtain ⟨w0, hw0⟩ : ∃ w0, w.alloc (.cells #[.int .u16 0, .slice none 0 0] 48) = w0 := ⟨_, rfl⟩
  rw [hw0]
  have HB0 := Lib.hid (show Below w.heap.size w w0 by rw [← hw0]; exact (Below.refl _ w).alloc (Nat.le_refl _) _)
  have hs0 : w0.heap.size = w.heap.size + 1 := by rw [← hw0]; simp
  have HR0 := Lib.hid (show w0.heap[w.heap.size]? = some (.cells #[.int .u16 0, .slice none 0 0] 48 (0, 0)) by rw [← hw0]; exact Array.getElem?_push_size)
  clear hw0
  refine (Wr.new_any _ _ _ _ _ (HXS.out.below HB0.out) HBD.out (by omega)).mono ?_
  rintro e w1 ⟨bc, ac, cc, rfl, hbc, hcur, hb1, hbe⟩
  have HC1 := Lib.hid hcur
  have HB1 := Lib.hid hb1
  have HBC := Lib.hid hbc
  clear hcur hb1 hbe hbc
  go_wp2_with fail
  refine (Wr.number_any _ _ _ _ _ 2 _ _ HC1.out).mono ?_
  rintro e w2 ⟨rfl, hcur, hbut⟩
  have HC2 := Lib.hid hcur
  have HB2 := Lib.hid (HB1.out.trans (hbut.below HBC.out HB1.out.size))
  clear hcur hbut
  rw [← hA] at HC2
  go_wp2_with fail
  refine (Wr.number_any _ _ _ _ _ 2 _ _ HC2.out).mono ?_
  rintro e w3 ⟨rfl, hcur, hbut⟩
  have HC3 := Lib.hid hcur
  have HB3 := Lib.hid (HB2.out.trans (hbut.below HBC.out HB2.out.size))
  clear hcur hbut
  rw [e4, e5]
  go_wp2_with fail
  refine (Wr.take_no _ _ _ _ _ (-4) _ _ HC3.out (by omega)).mono ?_
  rintro e w4' ⟨rfl, q, rfl⟩
  obtain ⟨w4, hw4⟩ : ∃ w4, w3.drewN q = w4 := ⟨_, rfl⟩
  rw [hw4]
  have HB4 := Lib.hid (show Below w0.heap.size w0 w4 by rw [← hw4]; exact below_drewN HB3.out q)
  clear hw4
  have hblk := (HB4.out.block w.heap.size (by omega)).trans HR0.out
  have q0 := bb_cell hblk 0
  have q1 := bb_cell hblk 1
  have f0 := bb_frozen hblk 0
  have f1 := bb_frozen hblk 1
  clear hblk
  go_wp2_with fail
  refine (Er.new_any 4 (p : Int) _).mono ?_
  rintro e w9 ⟨rfl, rfl⟩
  go_wp2
  obtain ⟨wz, hwz⟩ : ∃ wz, (w4.setCell ⟨w.heap.size, 0, none⟩ (.int .u16 0)).setCell ⟨w.heap.size, 1, none⟩ (.slice none 0 0) = wz := ⟨_, rfl⟩
  rw [hwz]
  have hz1 : wz.cell? ⟨w.heap.size, 1, none⟩ = some (.slice none 0 0) := by
    rw [← hwz]
    exact World.cell?_setCell_same _ _ _ ((World.cell?_setCell_other _ _ _ _ (show (⟨w.heap.size, 0, none⟩ : Addr) ≠ ⟨w.heap.size, 1, none⟩ by simp)).trans q1)
  have hz0 : wz.cell? ⟨w.heap.size, 0, none⟩ = some (.int .u16 0) := by
    rw [← hwz, World.cell?_setCell_other _ _ _ _ (show (⟨w.heap.size, 1, none⟩ : Addr) ≠ ⟨w.heap.size, 0, none⟩ by simp)]
    exact World.cell?_setCell_same _ _ _ q0
  have HST := Lib.hid (show Below w.heap.size w4 wz by rw [← hwz]; exact ((Below.refl w.heap.size w4).setCell (p := ⟨w.heap.size, 0, none⟩) (Nat.le_refl _) _).setCell (p := ⟨w.heap.size, 1, none⟩) (Nat.le_refl _) _)
  have HBT := Lib.hid (show Wr.But w.heap.size w4 wz by rw [← hwz]; exact (Wr.But.set w.heap.size 0 _ _).trans (Wr.But.set w.heap.size 1 _ _))
  have HFIN := Lib.hid ((HB0.out.trans (HB4.out.mono HB0.out.size)).trans HST.out)
  have hld := load_frame w.heap.size _ _ wz hz0 hz1
  refine bodyPost_ret (v := .tuple #[.agg #[.int .u16 0, .slice none 0 0], .int .i64 0, .iface (Er.EV.flt 4 (p : Int)).ty (Er.EV.flt 4 (p : Int)).body]) ?_ rfl ?_
  · rw [results_cell3 rfl]
    simp [asAddr, Result.andThen, hld]
  · exact ⟨rfl, HFIN.out⟩
end Go.Proofs.YtpccbnlbonjklaaDoor

/- The contracts of the functions of package kind. -/
import Derived.Test.YtoioindpmgkefaaDoorKind
namespace Go.Proofs.YtoioindpmgkefaaDoor
open Go.RowKit

/-- how many types of the table are less than t -/
def lbt (t : Int) : Nat := (KT.filter fun r => decide (r.ty < t)).length
/-- whether t is a type of the table -/
def fnd (t : Int) : Bool := decide (lbt t < 23) && decide (kty (lbt t) = t)
/-- the place of t in the table; 23 if it has none -/
def ixt (t : Int) : Nat := if fnd t = true then lbt t else 23

theorem lbt_all : ∀ t : Fin 256, lbt (t.val : Int) ≤ 23 ∧ ∀ h : Fin 23, (kty h.val < (t.val : Int) ↔ h.val < lbt (t.val : Int)) := by decide +kernel
theorem lbt_le {t : Int} (h0 : 0 ≤ t) (h1 : t < 256) : lbt t ≤ 23 := by
  obtain ⟨n, rfl⟩ := Int.eq_ofNat_of_zero_le h0
  exact (lbt_all ⟨n, by omega⟩).1
theorem lbt_iff {t : Int} (h0 : 0 ≤ t) (h1 : t < 256) {h : Nat} (hh : h < 23) : kty h < t ↔ h < lbt t := by
  obtain ⟨n, rfl⟩ := Int.eq_ofNat_of_zero_le h0
  exact (lbt_all ⟨n, by omega⟩).2 ⟨h, hh⟩
theorem kty_all : ∀ h : Fin 23, 0 ≤ kty h.val ∧ kty h.val < 256 := by decide +kernel
theorem kty_bd {h : Nat} (hh : h < 23) : 0 ≤ kty h ∧ kty h < 256 := kty_all ⟨h, hh⟩

theorem lt_cell {w : World} {b off : Nat} {v : Value} (h : w.cell? ⟨b, off, none⟩ = some v) : b < w.heap.size := lt_of_cell (a := ⟨b, off, none⟩) h
theorem RowAt.below {w w' : World} {b off i : Nat} (h : RowAt w b off i) (hb : Below w.heap.size w w') : RowAt w' b off i := by
  obtain ⟨h0, h1, h2, h3, h4, h5, h6⟩ := h
  have hl := lt_cell h0
  exact ⟨(hb.cell (p := ⟨b, _, none⟩) hl).trans h0, (hb.cell (p := ⟨b, _, none⟩) hl).trans h1, (hb.cell (p := ⟨b, _, none⟩) hl).trans h2, (hb.cell (p := ⟨b, _, none⟩) hl).trans h3,
    (hb.cell (p := ⟨b, _, none⟩) hl).trans h4, (hb.cell (p := ⟨b, _, none⟩) hl).trans h5, (hb.cell (p := ⟨b, _, none⟩) hl).trans h6⟩
theorem TabOk.below {w w' : World} (h : TabOk w) (hb : Below w.heap.size w w') : TabOk w' := by
  obtain ⟨h1, cs, tt, fr, h2, h3⟩ := h
  exact ⟨fun i hi => (h1 i hi).below hb, cs, tt, fr, (hb.block _ (Array.getElem?_eq_some_iff.1 h2).1).trans h2, h3⟩
theorem InsOk.below {w w' : World} (h : InsOk w) (hb : Below w.heap.size w w') : InsOk w' := fun i hi => by
  obtain ⟨h0, h1, h2⟩ := h i hi
  have hl := lt_cell h0
  exact ⟨(hb.cell (p := ⟨_, _, none⟩) hl).trans h0, (hb.cell (p := ⟨_, _, none⟩) hl).trans h1, (hb.cell (p := ⟨_, _, none⟩) hl).trans h2⟩

theorem isdata_any (t : Int) (w : World) : Calls Tryd.prog 20 #[.int .u8 t] w fun e w' => e = .returned (.bool (t == 0 || t == 64)) ∧ w = w' := by
  cases h0 : (t == 0)
  all_goals
    go_enter Tryd.func20, Tryd.ntmps20
    go_wp2
    go_ret
    exact ⟨rfl, rfl⟩

theorem of1_any (a : Int) (s : ByteArray) (m l mo u k t : Int) (w : World) (ha0 : 0 ≤ a) (ha1 : a < 256) (ht0 : 0 ≤ t) (ht1 : t < 256) :
    Calls Tryd.prog 23 #[.agg #[.int .u8 a, .string s, .int .u8 m, .int .i64 l, .int .i64 mo, .int .i64 u, .int .i64 k], .int .u8 t] w fun e w' => e = .returned (.int .i64 (a - t)) ∧ Below w.heap.size w w' := by
  go_enter Tryd.func23, Tryd.ntmps23
  go_wp2
  go_ret
  exact ⟨rfl, (Below.refl _ _).alloc (Nat.le_refl _) _⟩

theorem search_any (t : Int) (w : World) (hT : TabOk w) (ht0 : 0 ≤ t) (ht1 : t < 256) :
    Calls Tryd.prog 22 #[.slice (some ⟨0, 0, none⟩) 23 23, .int .u8 t, .func (.func 23) #[] #[]] w fun e w' =>
      e = .returned (.tuple #[.int .i64 (lbt t), .bool (fnd t)]) ∧ Below w.heap.size w w' := by
  have HT := Lib.hid hT
  have hle := lbt_le ht0 ht1
  clear hT
  go_enter Tryd.func22, Tryd.ntmps22
  go_wp2
  go_loopw [9, 10, 11] (fun i j _ wr => ∃ I J : Nat, I ≤ lbt t ∧ lbt t ≤ J ∧ J ≤ 23 ∧ i = .int .i64 I ∧ j = .int .i64 J ∧ Below w.heap.size w wr) (fun i j _ _ => (intOf j).toNat - (intOf i).toNat)
  case atStart => exact ⟨0, 23, Nat.zero_le _, hle, Nat.le_refl _, rfl, rfl, Below.refl _ _⟩
  case round =>
    obtain ⟨I, J, hI, hJ, hJ2, rfl, rfl, hbw⟩ := hrel
    have HW := Lib.hid hbw
    clear hbw
    by_cases hlt : I < J
    · have hh : (I + J) / 2 < 23 := by omega
      have hrow := (HT.out.below HW.out).1 ((I + J) / 2) hh
      have hiff := lbt_iff ht0 ht1 hh
      have hkb := kty_bd hh
      unfold RowAt at hrow
      obtain ⟨r0, r1, r2, r3, r4, r5, r6⟩ := hrow
      clear hh
      by_cases hk : kty ((I + J) / 2) < t
      · have hk2 := hiff.1 hk
        clear hiff
        go_wp2_with (go_at_call 23; refine (of1_any _ _ _ _ _ _ _ _ _ hkb.1 hkb.2 ht0 ht1).mono ?_; rintro e w2 ⟨rfl, hb2⟩; have HW2 := Lib.hid (HW.out.trans (hb2.mono HW.out.size)); clear hb2)
        go_roundw
        case rel => exact ⟨(I + J) / 2 + 1, J, by omega, hJ, hJ2, by go_num, rfl, HW2.out⟩
        case measure => simp [intOf]; omega
      · have hk2 : lbt t ≤ (I + J) / 2 := by
          have : ¬ (I + J) / 2 < lbt t := fun h => hk (hiff.2 h)
          omega
        clear hiff
        go_wp2_with (go_at_call 23; refine (of1_any _ _ _ _ _ _ _ _ _ hkb.1 hkb.2 ht0 ht1).mono ?_; rintro e w2 ⟨rfl, hb2⟩; have HW2 := Lib.hid (HW.out.trans (hb2.mono HW.out.size)); clear hb2)
        go_roundw
        case rel => exact ⟨I, (I + J) / 2, hI, hk2, by omega, rfl, by go_num, HW2.out⟩
        case measure => simp [intOf]; omega
    · obtain rfl : I = J := by omega
      obtain rfl : lbt t = I := by omega
      by_cases h23 : lbt t < 23
      · have hrow := (HT.out.below HW.out).1 (lbt t) h23
        have hkb := kty_bd h23
        unfold RowAt at hrow
        obtain ⟨r0, r1, r2, r3, r4, r5, r6⟩ := hrow
        have hd : decide (lbt t < 23) = true := by simp [h23]
        by_cases hk : kty (lbt t) = t
        · have hf : Hid (fnd t = true) := by simp [Hid, fnd, h23, hk]
          have hb : (kty (lbt t) - t == 0) = true := by simp; omega
          clear hk
          go_wp2_with (go_at_call 23; refine (of1_any _ _ _ _ _ _ _ _ _ hkb.1 hkb.2 ht0 ht1).mono ?_; rintro e w2 ⟨rfl, hb2⟩; have HW2 := Lib.hid (HW.out.trans (hb2.mono HW.out.size)); clear hb2)
          go_ret2
          exact ⟨by rw [hf.out]; rfl, HW2.out⟩
        · have hf : Hid (fnd t = false) := by simp [Hid, fnd, hk]
          have hb : (kty (lbt t) - t == 0) = false := by simp; omega
          clear hk
          go_wp2_with (go_at_call 23; refine (of1_any _ _ _ _ _ _ _ _ _ hkb.1 hkb.2 ht0 ht1).mono ?_; rintro e w2 ⟨rfl, hb2⟩; have HW2 := Lib.hid (HW.out.trans (hb2.mono HW.out.size)); clear hb2)
          go_ret2
          exact ⟨by rw [hf.out]; rfl, HW2.out⟩
      · have hf : Hid (fnd t = false) := by simp [Hid, fnd, h23]
        have hd : decide (lbt t < 23) = false := by simp; omega
        go_wp2
        go_ret2
        exact ⟨by rw [hf.out]; rfl, HW.out⟩

/-- what is known of a struct laid ahead of a call, behind it -/
theorem newRow {w w1 : World} {a m : Int} {s : ByteArray} {l mo u k : Int} {t : TypeId}
    (h : Below (w.alloc (.cells #[.int .u8 a, .string s, .int .u8 m, .int .i64 l, .int .i64 mo, .int .i64 u, .int .i64 k] t)).heap.size (w.alloc (.cells #[.int .u8 a, .string s, .int .u8 m, .int .i64 l, .int .i64 mo, .int .i64 u, .int .i64 k] t)) w1) :
    w1.heap[w.heap.size]? = some (.cells #[.int .u8 a, .string s, .int .u8 m, .int .i64 l, .int .i64 mo, .int .i64 u, .int .i64 k] t (0, 0)) ∧
    w1.cell? ⟨w.heap.size, 0, none⟩ = some (.int .u8 a) ∧ w1.cell? ⟨w.heap.size, 1, none⟩ = some (.string s) ∧ w1.cell? ⟨w.heap.size, 2, none⟩ = some (.int .u8 m) ∧ w1.cell? ⟨w.heap.size, 3, none⟩ = some (.int .i64 l) ∧
    w1.cell? ⟨w.heap.size, 4, none⟩ = some (.int .i64 mo) ∧ w1.cell? ⟨w.heap.size, 5, none⟩ = some (.int .i64 u) ∧ w1.cell? ⟨w.heap.size, 6, none⟩ = some (.int .i64 k) ∧
    ∀ j, w1.frozen? ⟨w.heap.size, j, none⟩ = false := by
  have hb : w1.heap[w.heap.size]? = some (.cells #[.int .u8 a, .string s, .int .u8 m, .int .i64 l, .int .i64 mo, .int .i64 u, .int .i64 k] t (0, 0)) := by
    rw [h.block _ (by simp)]
    exact (MapKept.heap_alloc w _).1
  refine ⟨hb, ?_, ?_, ?_, ?_, ?_, ?_, ?_, fun j => by simp [World.frozen?, hb]⟩ <;> (simp only [World.cell?, hb]; rfl)
/-- seven stores into a block of seven cells -/
theorem set7 {w : World} {b : Nat} {a0 a1 a2 a3 a4 a5 a6 : Value} {t : TypeId} (h : w.heap[b]? = some (.cells #[a0, a1, a2, a3, a4, a5, a6] t (0, 0))) (v0 v1 v2 v3 v4 v5 v6 : Value) :
    (((((((w.setCell ⟨b, 0, none⟩ v0).setCell ⟨b, 1, none⟩ v1).setCell ⟨b, 2, none⟩ v2).setCell ⟨b, 3, none⟩ v3).setCell ⟨b, 4, none⟩ v4).setCell ⟨b, 5, none⟩ v5).setCell ⟨b, 6, none⟩ v6).heap[b]? =
      some (.cells #[v0, v1, v2, v3, v4, v5, v6] t (0, 0)) := by
  simp [World.setCell, Array.getElem?_modify, h]
/-- a result that is a form and a bool -/
theorem res_row {f : Func} (hf : f.results = #[.cell 2 33, .tmp 3]) {w : World} {b : Nat} {a m l mo u k : Int} {s : ByteArray} {ok : Bool} {tmps : Array Value} (h2 : tmps.getD 2 undef = .pointer (some ⟨b, 0, none⟩)) (h3 : tmps.getD 3 undef = .bool ok)
    (hb : w.heap[b]? = some (.cells #[.int .u8 a, .string s, .int .u8 m, .int .i64 l, .int .i64 mo, .int .i64 u, .int .i64 k] 33 (0, 0))) :
    (results f tmps).run Tryd.prog w = .ok (.tuple #[.agg #[.int .u8 a, .string s, .int .u8 m, .int .i64 l, .int .i64 mo, .int .i64 u, .int .i64 k], .bool ok]) w := by
  have c0 : w.cell? ⟨b, 0, none⟩ = some (.int .u8 a) := by simp only [World.cell?, hb]; rfl
  have c1 : w.cell? ⟨b, 1, none⟩ = some (.string s) := by simp only [World.cell?, hb]; rfl
  have c2 : w.cell? ⟨b, 2, none⟩ = some (.int .u8 m) := by simp only [World.cell?, hb]; rfl
  have c3 : w.cell? ⟨b, 3, none⟩ = some (.int .i64 l) := by simp only [World.cell?, hb]; rfl
  have c4 : w.cell? ⟨b, 4, none⟩ = some (.int .i64 mo) := by simp only [World.cell?, hb]; rfl
  have c5 : w.cell? ⟨b, 5, none⟩ = some (.int .i64 u) := by simp only [World.cell?, hb]; rfl
  have c6 : w.cell? ⟨b, 6, none⟩ = some (.int .i64 k) := by simp only [World.cell?, hb]; rfl
  rw [results_cell_tmp hf, h2, h3]
  simp [go_sem, c0, c1, c2, c3, c4, c5, c6]
/-- kind.Of -/
theorem of_yes (t : Int) (w : World) (hT : TabOk w) (ht0 : 0 ≤ t) (ht1 : t < 256) (hf : fnd t = true) :
    Calls Tryd.prog 17 #[.int .u8 t] w fun e w' => e = .returned (.tuple #[.agg #[.int .u8 (kty (lbt t)), .string (kname (lbt t)), .int .u8 (kmask (lbt t)), .int .i64 (kleast (lbt t)), .int .i64 (kmost (lbt t)), .int .i64 (kunit (lbt t)), .int .i64 (kkids (lbt t))], .bool true]) ∧ Below w.heap.size w w' := by
  have HT := Lib.hid hT
  have h23 : lbt t < 23 := by simp [fnd] at hf; exact hf.1
  have HF := Lib.hid hf
  clear hf hT
  go_enter Tryd.func17, Tryd.ntmps17
  go_wp2_with fail
  refine (search_any _ _ (HT.out.below ((Below.refl _ _).alloc (Nat.le_refl _) _)) ht0 ht1).mono ?_
  rintro e w1 ⟨rfl, hb1⟩
  rw [HF.out]
  obtain ⟨s0, s1, s2, s3, s4, s5, s6, s7, s8⟩ := newRow hb1
  have hrow := (HT.out.below (((Below.refl _ _).alloc (Nat.le_refl _) _).trans (hb1.mono (by simp)))).1 (lbt t) h23
  have HW := Lib.hid (((Below.refl _ w).alloc (Nat.le_refl _) _).trans (hb1.mono (B' := w.heap.size) (by simp)))
  unfold RowAt at hrow
  obtain ⟨r0, r1, r2, r3, r4, r5, r6⟩ := hrow
  clear hb1
  have S0 := Lib.hid s0
  clear s0
  go_wp2
  refine bodyPost_ret (v := .tuple #[.agg #[.int .u8 (kty (lbt t)), .string (kname (lbt t)), .int .u8 (kmask (lbt t)), .int .i64 (kleast (lbt t)), .int .i64 (kmost (lbt t)), .int .i64 (kunit (lbt t)), .int .i64 (kkids (lbt t))], .bool true]) (res_row rfl rfl rfl (set7 S0.out _ _ _ _ _ _ _)) rfl ⟨rfl, ?_⟩
  exact (((((((HW.out.setCell (Nat.le_refl _) _).setCell (Nat.le_refl _) _).setCell (Nat.le_refl _) _).setCell (Nat.le_refl _) _).setCell (Nat.le_refl _) _).setCell (Nat.le_refl _) _).setCell (Nat.le_refl _) _)
theorem of_no (t : Int) (w : World) (hT : TabOk w) (ht0 : 0 ≤ t) (ht1 : t < 256) (hf : fnd t = false) :
    Calls Tryd.prog 17 #[.int .u8 t] w fun e w' => e = .returned (.tuple #[.agg #[.int .u8 0, .string ⟨#[]⟩, .int .u8 0, .int .i64 0, .int .i64 0, .int .i64 0, .int .i64 0], .bool false]) ∧ Below w.heap.size w w' := by
  have HT := Lib.hid hT
  have HF := Lib.hid hf
  clear hf hT
  go_enter Tryd.func17, Tryd.ntmps17
  go_wp2_with fail
  refine (search_any _ _ (HT.out.below ((Below.refl _ _).alloc (Nat.le_refl _) _)) ht0 ht1).mono ?_
  rintro e w1 ⟨rfl, hb1⟩
  rw [HF.out]
  obtain ⟨s0, s1, s2, s3, s4, s5, s6, s7, s8⟩ := newRow hb1
  have HW := Lib.hid (((Below.refl _ w).alloc (Nat.le_refl _) _).trans (hb1.mono (B' := w.heap.size) (by simp)))
  clear hb1
  have S0 := Lib.hid s0
  clear s0
  go_wp2
  refine bodyPost_ret (v := .tuple #[.agg #[.int .u8 0, .string ⟨#[]⟩, .int .u8 0, .int .i64 0, .int .i64 0, .int .i64 0, .int .i64 0], .bool false]) (res_row rfl rfl rfl (set7 S0.out _ _ _ _ _ _ _)) rfl ⟨rfl, ?_⟩
  exact (((((((HW.out.setCell (Nat.le_refl _) _).setCell (Nat.le_refl _) _).setCell (Nat.le_refl _) _).setCell (Nat.le_refl _) _).setCell (Nat.le_refl _) _).setCell (Nat.le_refl _) _).setCell (Nat.le_refl _) _)
theorem ret23 : Ending.returned (.tuple #[.agg #[.int .u8 0, .string ⟨#[]⟩, .int .u8 0, .int .i64 0, .int .i64 0, .int .i64 0, .int .i64 0], .bool false]) = Ending.returned (.tuple #[.agg #[.int .u8 (kty 23), .string (kname 23), .int .u8 (kmask 23), .int .i64 (kleast 23), .int .i64 (kmost 23), .int .i64 (kunit 23), .int .i64 (kkids 23)], .bool false]) := rfl
theorem of_any (t : Int) (w : World) (hT : TabOk w) (ht0 : 0 ≤ t) (ht1 : t < 256) :
    Calls Tryd.prog 17 #[.int .u8 t] w fun e w' => e = .returned (.tuple #[.agg #[.int .u8 (kty (ixt t)), .string (kname (ixt t)), .int .u8 (kmask (ixt t)), .int .i64 (kleast (ixt t)), .int .i64 (kmost (ixt t)), .int .i64 (kunit (ixt t)), .int .i64 (kkids (ixt t))], .bool (fnd t)]) ∧ Below w.heap.size w w' := by
  cases hf : fnd t with
  | true =>
    have hix : ixt t = lbt t := by simp [ixt, hf]
    rw [hix]
    exact of_yes t w hT ht0 ht1 hf
  | false =>
    have hix : ixt t = 23 := by simp [ixt, hf]
    rw [hix, ← ret23]
    exact of_no t w hT ht0 ht1 hf

theorem known_any (t : Int) (w : World) (hT : TabOk w) (ht0 : 0 ≤ t) (ht1 : t < 256) :
    Calls Tryd.prog 19 #[.int .u8 t] w fun e w' => e = .returned (.bool (fnd t)) ∧ Below w.heap.size w w' := by
  go_enter Tryd.func19, Tryd.ntmps19
  go_wp2_with fail
  refine (of_any _ _ hT ht0 ht1).mono ?_
  rintro e w1 ⟨rfl, hb1⟩
  have HW := Lib.hid hb1
  have hs := hb1.size
  clear hb1 hT
  go_wp2
  go_ret
  exact ⟨rfl, HW.out.alloc hs _⟩

/-- kind.Inside -/
theorem inside_yes (i : Nat) (w : World) (hI : InsOk w) (hi : i < 7) :
    Calls Tryd.prog 15 #[.int .i64 i] w fun e w' => e = .returned (.tuple #[.int .i64 (it0 i), .int .i64 (it1 i), .int .i64 (it2 i)]) ∧ Below w.heap.size w w' := by
  obtain ⟨h0, h1, h2⟩ := hI i hi
  clear hI
  go_enter Tryd.func15, Tryd.ntmps15
  go_wp2
  go_quiet (fail)
  go_wp2
  go_ret3
  exact ⟨rfl, below_drewN (Below.refl _ _) _⟩
theorem inside_no (i : Int) (w : World) (hi : i < 0 ∨ 7 ≤ i) :
    Calls Tryd.prog 15 #[.int .i64 i] w fun e w' => e = .returned (.tuple #[.int .i64 0, .int .i64 0, .int .i64 0]) ∧ Below w.heap.size w w' := by
  rcases hi with h | h
  all_goals
    go_enter Tryd.func15, Tryd.ntmps15
    go_wp2
    go_ret3
    exact ⟨rfl, Below.refl _ _⟩

end Go.Proofs.YtoioindpmgkefaaDoor

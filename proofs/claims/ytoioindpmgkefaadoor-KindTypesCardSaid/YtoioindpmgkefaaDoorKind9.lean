/- The walk of KindNames. -/
import Derived.Test.YtoioindpmgkefaaDoorKind8
namespace Go.Proofs.YtoioindpmgkefaaDoor
open Go.RowKit

/-- the form that the law's loop holds after k rounds -/
def wx (name : ByteArray) (k : Nat) : Nat := if nix name < k then nix name else 23
def hx (name : ByteArray) (k : Nat) : Bool := decide (nix name < k)
theorem nix_le (name : ByteArray) : nix name ≤ 23 := by
  unfold nix
  cases hf : (List.range 23).find? (fun i => nmB (kname i) name) with
  | none => simp
  | some i => have := List.mem_of_find?_eq_some hf; simp at this; simp; omega
theorem wx_end (name : ByteArray) : wx name 23 = nix name := by
  have := nix_le name
  unfold wx; split <;> omega
theorem wx_hit {name : ByteArray} {k : Nat} (h : nix name = k) : wx name (k + 1) = k ∧ hx name (k + 1) = true := by simp [wx, hx, h]
theorem wx_miss {name : ByteArray} {k : Nat} (h : ¬ nix name = k) : wx name (k + 1) = wx name k ∧ hx name (k + 1) = hx name k := by
  have e : nix name < k + 1 ↔ nix name < k := by omega
  simp [wx, hx, e]
theorem nix_not {name : ByteArray} {k : Nat} (h : nmB (kname k) name = false) (hk : k < 23) : ¬ nix name = k := by
  intro e
  have hf : (List.range 23).find? (fun i => nmB (kname i) name) = some k := by
    unfold nix at e
    cases hf : (List.range 23).find? (fun i => nmB (kname i) name) with
    | none => rw [hf] at e; simp at e; omega
    | some i => rw [hf] at e; simp at e; rw [e]
  have := List.find?_some hf
  rw [h] at this
  cases this

theorem cells7 {w : World} {b : Nat} {a m l mo u k : Int} {s : ByteArray} {t : TypeId} (hb : w.heap[b]? = some (.cells #[.int .u8 a, .string s, .int .u8 m, .int .i64 l, .int .i64 mo, .int .i64 u, .int .i64 k] t (0, 0))) :
    w.cell? ⟨b, 0, none⟩ = some (.int .u8 a) ∧ w.cell? ⟨b, 1, none⟩ = some (.string s) ∧ w.cell? ⟨b, 2, none⟩ = some (.int .u8 m) ∧ w.cell? ⟨b, 3, none⟩ = some (.int .i64 l) ∧
    w.cell? ⟨b, 4, none⟩ = some (.int .i64 mo) ∧ w.cell? ⟨b, 5, none⟩ = some (.int .i64 u) ∧ w.cell? ⟨b, 6, none⟩ = some (.int .i64 k) ∧ ∀ j, w.frozen? ⟨b, j, none⟩ = false := by
  refine ⟨?_, ?_, ?_, ?_, ?_, ?_, ?_, fun j => by simp [World.frozen?, hb]⟩ <;> (simp only [World.cell?, hb]; rfl)

theorem row_set {w : World} {b off i : Nat} (h : RowAt w b off i) {p : Addr} (hp : p.block ≠ b) (v : Value) : RowAt (w.setCell p v) b off i := by
  have e : ∀ j, (w.setCell p v).cell? ⟨b, j, none⟩ = w.cell? ⟨b, j, none⟩ := fun j => by
    simp only [World.cell?, World.setCell, Array.getElem?_modify, if_neg hp]
  unfold RowAt
  simp only [e]
  exact h

theorem walk_KindNames (name : ByteArray) (w : World) (hT : TabOk w) (hI : InsOk w) (hn : name.size ≤ 9223372036854775807) :
    Calls Tryd.prog 7 #[.string name] w fun e w' => e = .returned (.bool true) ∧ Below w.heap.size w w' := by
  have HT := Lib.hid hT
  have HI := Lib.hid hI
  clear hT hI
  by_cases hl : 100 < name.size
  · go_enter Tryd.func7, Tryd.ntmps7
    go_wp2_with fail
    refine (awake_any _ HT.out HI.out).mono ?_
    rintro e w1 ⟨rfl, hb1⟩
    have HB1 := Lib.hid hb1
    clear hb1
    go_wp2_with fail
    refine (awake_any _ (HT.out.below HB1.out) (HI.out.below HB1.out)).mono ?_
    rintro e w2 ⟨rfl, hb2⟩
    have HB2 := Lib.hid (HB1.out.trans (hb2.mono HB1.out.size))
    clear hb2
    go_wp2
    go_ret
    exact ⟨rfl, HB2.out⟩
  · go_enter Tryd.func7, Tryd.ntmps7
    go_wp2_with fail
    refine (awake_any _ HT.out HI.out).mono ?_
    rintro e w1 ⟨rfl, hb1⟩
    have HB1 := Lib.hid hb1
    have hs1 : w.heap.size ≤ w1.heap.size := hb1.size
    clear hb1
    go_wp2_with fail
    refine (byname_any name _ (HT.out.below HB1.out)).mono ?_
    rintro e w2 ⟨rfl, hb2⟩
    have HB2 := Lib.hid (HB1.out.trans (hb2.mono hs1))
    have hs2 : w.heap.size ≤ w2.heap.size := HB2.out.size
    clear hb2
    go_wp2_with fail
    refine (table_any _).mono ?_
    rintro e w3 ⟨rfl, hr, hb3⟩
    rw [World.size_alloc, World.size_alloc] at hr hb3
    have hk3 : w3.heap[w2.heap.size]? = some (.cells #[.int .u8 (kty (nix name)), .string (kname (nix name)), .int .u8 (kmask (nix name)), .int .i64 (kleast (nix name)), .int .i64 (kmost (nix name)), .int .i64 (kunit (nix name)), .int .i64 (kkids (nix name))] 33 (0, 0)) := by
      rw [hb3.block _ (by omega), heap_alloc2_old]
    have hk5 : w3.heap[w2.heap.size + 1]? = some (.cells #[.int .u8 0, .string ⟨#[]⟩, .int .u8 0, .int .i64 0, .int .i64 0, .int .i64 0, .int .i64 0] 28 (0, 0)) := by
      rw [hb3.block _ (by omega), heap_alloc2_new]
    have hs3 : w2.heap.size + 1 + 1 < w3.heap.size := lt_cell (hr 0 (by decide)).1
    have HB3 := Lib.hid (((HB2.out.alloc hs2 _).alloc (by simp; omega) _).trans (hb3.mono (by omega)))
    have HR := Lib.hid hr
    have HK3 := Lib.hid hk3
    have HK5 : Hid (w3.heap[w2.heap.size + 1]? = some (.cells #[.int .u8 (kty (wx name 0)), .string (kname (wx name 0)), .int .u8 (kmask (wx name 0)), .int .i64 (kleast (wx name 0)), .int .i64 (kmost (wx name 0)), .int .i64 (kunit (wx name 0)), .int .i64 (kkids (wx name 0))] 28 (0, 0))) := hk5
    clear hb3 hr hk3 hk5
    go_wp2
    go_loopw [6, 8] (fun has i wr => ∃ k : Nat, k ≤ 23 ∧ i = .int .i64 k ∧ has = .bool (hx name k) ∧ Below (w2.heap.size + 1) w3 wr ∧ (∀ i, i < 23 → RowAt wr (w2.heap.size + 1 + 1) (i * 7) i) ∧
      wr.heap[w2.heap.size + 1]? = some (.cells #[.int .u8 (kty (wx name k)), .string (kname (wx name k)), .int .u8 (kmask (wx name k)), .int .i64 (kleast (wx name k)), .int .i64 (kmost (wx name k)), .int .i64 (kunit (wx name k)), .int .i64 (kkids (wx name k))] 28 (0, 0)))
      (fun _ i _ => 23 - (intOf i).toNat)
    case atStart => exact ⟨0, by omega, rfl, rfl, Below.refl _ _, HR.out, HK5.out⟩
    case round =>
      clear HK5 HR
      obtain ⟨k, hk, rfl, rfl, hbw, hrw, hkw⟩ := hrel
      have HW := Lib.hid hbw
      have HRw := Lib.hid hrw
      have HKw := Lib.hid hkw
      have hsw : w3.heap.size ≤ wr.heap.size := hbw.size
      clear hbw hrw hkw
      by_cases hlt : k < 23
      · have hrow := HRw.out k hlt
        unfold RowAt at hrow
        obtain ⟨r0, r1, r2, r3, r4, r5, r6⟩ := hrow
        cases hm : nmB (kname k) name with
        | true =>
          have HX := Lib.hid (wx_hit (nix_at hlt hm))
          have hm' : ((kname k).toList == name.toList) = true := hm
          obtain ⟨q0, q1, q2, q3, q4, q5, q6, q7⟩ := cells7 HKw.out
          clear hm
          go_wp2
          go_roundw
          case rel =>
            have hh := HRw.out
            exact ⟨k + 1, by omega, by go_num, by rw [HX.out.2], (((((((HW.out.setCell (Nat.le_refl _) _).setCell (Nat.le_refl _) _).setCell (Nat.le_refl _) _).setCell (Nat.le_refl _) _).setCell (Nat.le_refl _) _).setCell (Nat.le_refl _) _).setCell (Nat.le_refl _) _), fun i hi => (row_set (row_set (row_set (row_set (row_set (row_set (row_set (hh i hi) (by simp) _) (by simp) _) (by simp) _) (by simp) _) (by simp) _) (by simp) _) (by simp) _), by rw [HX.out.1]; exact set7 HKw.out _ _ _ _ _ _ _⟩
          case measure => simp [intOf]; omega
        | false =>
          have HX := Lib.hid (wx_miss (nix_not hm hlt))
          have hm' : ((kname k).toList == name.toList) = false := hm
          clear hm
          go_wp2
          go_roundw
          case rel => exact ⟨k + 1, by omega, by go_num, by rw [HX.out.2], HW.out, HRw.out, by rw [HX.out.1]; exact HKw.out⟩
          case measure => simp [intOf]; omega
      · obtain rfl : k = 23 := by omega
        have h5 := HKw.out
        rw [wx_end] at h5
        obtain ⟨q0, q1, q2, q3, q4, q5, q6, q7⟩ := cells7 h5
        have h3 : wr.heap[w2.heap.size]? = _ := (HW.out.block _ (by omega)).trans HK3.out
        obtain ⟨p0, p1, p2, p3, p4, p5, p6, p7⟩ := cells7 h3
        have hh : Hid (hx name 23 = decide (nix name < 23)) := rfl
        rw [hh.out]
        have HF := Lib.hid (HB3.out.trans (HW.out.mono (by omega)))
        clear h5 h3 q7 p7
        go_wp2
        go_ret
        exact ⟨by simp, HF.out⟩

end Go.Proofs.YtoioindpmgkefaaDoor

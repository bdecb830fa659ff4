/- errors.as at *api.Fault. -/
import Derived.Test.YtlaofaopajcfkaaDoorErr5
namespace Go.Proofs.YtlaofaopajcfkaaDoor
open Go.RowKit Go.Extern.Stop Go.Stop Go.Extern

set_option maxRecDepth 100000 in
set_option maxHeartbeats 8000000 in
theorem as27_fault (e : EV) (T B : Nat) (w : World) (hB : w.cell? ⟨B, 0, none⟩ = some (.pointer (some ⟨T, 0, none⟩))) (ht : w.cell? ⟨T, 0, none⟩ = some (.int .i64 0)) (ht1 : w.cell? ⟨T, 1, none⟩ = some (.int .i64 0)) (hf : w.frozen? ⟨T, 0, none⟩ = false) (hf1 : w.frozen? ⟨T, 1, none⟩ = false) :
    Calls Tryd.prog 27 #[.iface e.ty e.body, .iface 51 (.pointer (some ⟨T, 0, none⟩)), .agg #[.pointer (some ⟨5, 51, none⟩), .pointer (some ⟨B, 0, none⟩), .int .u64 150], .iface 73 (.agg #[.pointer (some ⟨5, 48, none⟩)])] w
      fun r w' => r = .returned (.bool e.off.isSome) ∧ w'.cell? ⟨T, 1, none⟩ = some (.int .i64 (e.off.getD 0)) ∧ Below T w w' := by
  have HB := Lib.hid hB
  have HT := Lib.hid ht
  have HF := Lib.hid hf
  have HT1 := Lib.hid ht1
  have HF1 := Lib.hid hf1
  have hbl := lt_of_cell hB
  have htl := lt_of_cell ht
  clear hB ht hf ht1 hf1
  go_enter Tryd.func27, Tryd.ntmps27
  have x22 := hTypeOf
  have x70 := hAsg
  have x28 := hVElem
  have x24 := hValueOf
  have x29 := hSet
  have to30 := to
  go_wp2
  obtain ⟨w1, hw1⟩ : ∃ w1, w.alloc (.cells #[.pointer (some ⟨5, 51, none⟩), .pointer (some ⟨B, 0, none⟩), .int .u64 150] 65) = w1 := ⟨_, rfl⟩
  have hb1 : Below w.heap.size w w1 := by rw [← hw1]; exact (Below.refl _ w).alloc (Nat.le_refl _) _
  have hs1 : w1.heap.size = w.heap.size + 1 := by rw [← hw1]; simp
  have c0 : w1.cell? ⟨w.heap.size, 0, none⟩ = some (.pointer (some ⟨5, 51, none⟩)) := by rw [← hw1]; simp
  have c1 : w1.cell? ⟨w.heap.size, 1, none⟩ = some (.pointer (some ⟨B, 0, none⟩)) := by rw [← hw1]; simp
  have c2 : w1.cell? ⟨w.heap.size, 2, none⟩ = some (.int .u64 150) := by rw [← hw1]; simp
  have HC0 := Lib.hid c0
  have HC1 := Lib.hid c1
  have HC2 := Lib.hid c2
  have HB1 := Lib.hid hb1
  rw [hw1]
  clear hw1 hb1 c0 c1 c2
  go_loopw [0] (fun E wl => ∃ e' : EV, E = .iface e'.ty e'.body ∧ e'.off = e.off ∧ Below w1.heap.size w1 wl) (fun E _ => edepth E)
  case atStart => exact ⟨e, rfl, rfl, Below.refl _ _⟩
  case round =>
    obtain ⟨e', rfl, hc, hbw⟩ := hrel
    have c0 := (hbw.cell (p := ⟨w.heap.size, 0, none⟩) (by show w.heap.size < _; omega)).trans HC0.out
    have c1 := (hbw.cell (p := ⟨w.heap.size, 1, none⟩) (by show w.heap.size < _; omega)).trans HC1.out
    have c2 := (hbw.cell (p := ⟨w.heap.size, 2, none⟩) (by show w.heap.size < _; omega)).trans HC2.out
    have HW := Lib.hid hbw
    have hbB := (hbw.cell (p := ⟨B, 0, none⟩) (by have : B < w.heap.size := hbl; show B < _; omega)).trans ((HB1.out.cell (p := ⟨B, 0, none⟩) hbl).trans HB.out)
    have hbT := (hbw.cell (p := ⟨T, 0, none⟩) (by have : T < w.heap.size := htl; show T < _; omega)).trans ((HB1.out.cell (p := ⟨T, 0, none⟩) htl).trans HT.out)
    have hbT1 := (hbw.cell (p := ⟨T, 1, none⟩) (by have : T < w.heap.size := htl; show T < _; omega)).trans ((HB1.out.cell (p := ⟨T, 1, none⟩) htl).trans HT1.out)
    have hsw := hbw.size
    clear hbw
    cases e' with
    | code c =>
      have HCC := Lib.hid (show none = e.off from hc)
      clear hc
      simp only [EV.ty, EV.body]
      have a30 := asg 30 48 false (by decide)
      have n83 := noAs30
      have n55 := noUn30
      have n78 := noUs30
      have HT9 := Lib.hid hbT1
      go_wp2
      go_ret
      refine ⟨by rw [← HCC.out]; rfl, by rw [← HCC.out]; exact HT9.out, ?_⟩
      have h1 : Below w.heap.size w wr := HB1.out.trans (HW.out.mono HB1.out.size)
      exact h1.mono (Nat.le_of_lt htl)
    | flt c a =>
      have HCC := Lib.hid (show some a = e.off from hc)
      clear hc
      simp only [EV.ty, EV.body]
      have a30 := asg 48 48 true (by decide)
      have el := elemV2 ⟨B, 0, none⟩ ⟨T, 0, none⟩ wr hbB
      have vv := vf4 c a
      have hlt : T < w.heap.size := htl
      have hltw : T < wr.heap.size := by omega
      have hct : ∀ o, o < 2 → (wr.alloc (.cells #[.int .i64 c, .int .i64 a] 48)).cell? ⟨T, o, none⟩ = some (.int .i64 0) := fun o ho => by
        rw [World.cell?_alloc_lt _ _ ⟨T, o, none⟩ hltw]
        match o, ho with
        | 0, _ => exact hbT
        | 1, _ => exact hbT1
      have hbf : ∀ o, o < 2 → (wr.alloc (.cells #[.int .i64 c, .int .i64 a] 48)).frozen? ⟨T, o, none⟩ = false := fun o ho => by
        rw [World.frozen?_alloc_old _ _ ⟨T, o, none⟩ (by show T ≠ _; omega)]
        have h1 := HW.out.block T (by omega)
        have h2 := HB1.out.block T htl
        have h3 := HF.out
        have h4 := HF1.out
        unfold World.frozen? at h3 h4 ⊢
        rw [h1, h2]
        match o, ho with
        | 0, _ => exact h3
        | 1, _ => exact h4
      have st := set2 T wr.heap.size c a (.int .i64 0) (.int .i64 0) (wr.alloc (.cells #[.int .i64 c, .int .i64 a] 48)) (by simp) (by simp) (hct 0 (by omega)) (hct 1 (by omega)) (hbf 0 (by omega)) (hbf 1 (by omega))
      have HT9 := Lib.hid hbT1
      clear hct hbf
      go_wp2
      go_ret
      refine ⟨by rw [← HCC.out]; rfl, ?_, ?_⟩
      · rw [← HCC.out]
        rw [World.cell?_alloc_lt _ _ ⟨T, 1, none⟩ (by show T < _; simpa [World.setCell] using hltw)]
        refine World.cell?_setCell_same (u := .int .i64 0) _ _ _ ?_
        rw [World.cell?_setCell_other _ _ _ _ (show (⟨T, 0, none⟩ : Addr) ≠ ⟨T, 1, none⟩ by simp)]
        exact HT9.out
      · have h1 : Below w.heap.size w wr := HB1.out.trans (HW.out.mono HB1.out.size)
        have h2 : Below T w wr := h1.mono (Nat.le_of_lt hlt)
        exact ((h2.setCell (p := ⟨T, 0, none⟩) (Nat.le_refl _) _).setCell (p := ⟨T, 1, none⟩) (Nat.le_refl _) _).alloc (by simpa [World.setCell] using Nat.le_of_lt hltw) _
    | inn p e2 =>
      have HCC := Lib.hid (show e2.off = e.off from hc)
      clear hc
      simp only [EV.body]
      have a30 := asg 54 48 false (by decide)
      have n83 := noAs54
      have h55 := hasUn54
      obtain ⟨ty2, hty⟩ : ∃ t, t = e2.ty := ⟨_, rfl⟩
      obtain ⟨bd2, hbd⟩ : ∃ t, t = e2.body := ⟨_, rfl⟩
      rw [← hty, ← hbd]
      have HTY := Lib.hid hty
      have HBD := Lib.hid hbd
      clear hty hbd
      simp only [EV.ty]
      go_wp2
      go_roundw
      case rel => exact ⟨e2, by show Value.iface ty2 bd2 = .iface e2.ty e2.body; rw [HTY.out, HBD.out], HCC.out, HW.out.alloc hsw _⟩
      case measure =>
        have h1 := edepth_eq e2
        have h2 := edepth_eq (EV.inn p e2)
        show edepth (.iface ty2 bd2) < edepth (.iface 54 (.agg #[.string p, .iface ty2 bd2]))
        rw [HTY.out, HBD.out, h1]
        show e2.depth < edepth (.iface (EV.inn p e2).ty (EV.inn p e2).body)
        rw [h2]
        exact Nat.lt_succ_self _
end Go.Proofs.YtlaofaopajcfkaaDoor

/- errors.as at *api.Code. -/
import Derived.Test.YtlaofaopajcfkaaDoorErr2
namespace Go.Proofs.YtlaofaopajcfkaaDoor
open Go.RowKit Go.Extern.Stop Go.Stop Go.Extern

/-- the errors of the package -/
inductive EV where
  | code (c : Int)
  | flt (c a : Int)
  | inn (p : ByteArray) (e : EV)
def EV.ty : EV → TypeId
  | .code _ => 30
  | .flt _ _ => 48
  | .inn _ _ => 54
def EV.body : EV → Value
  | .code c => .int .i64 c
  | .flt c a => .agg #[.int .i64 c, .int .i64 a]
  | .inn p e => .agg #[.string p, .iface e.ty e.body]
def EV.val (e : EV) : Value := .iface e.ty e.body
def EV.cod : EV → Int
  | .code c => c
  | .flt c _ => c
  | .inn _ e => e.cod
def EV.depth : EV → Nat
  | .code _ => 0
  | .flt _ _ => 1
  | .inn _ e => e.depth + 1
/-- the offset, if there is one -/
def EV.off : EV → Option Int
  | .code _ => none
  | .flt _ a => some a
  | .inn _ e => e.off

theorem EV.inj : ∀ (e f : EV), e.ty = f.ty → e.body = f.body → e = f
  | .code c, .code d, _, h => by simp [EV.body] at h; rw [h]
  | .code _, .flt _ _, h, _ => by simp [EV.ty] at h
  | .code _, .inn _ _, h, _ => by simp [EV.ty] at h
  | .flt _ _, .code _, h, _ => by simp [EV.ty] at h
  | .flt c a, .flt d b, _, h => by simp [EV.body] at h; rw [h.1, h.2]
  | .flt _ _, .inn _ _, h, _ => by simp [EV.ty] at h
  | .inn _ _, .code _, h, _ => by simp [EV.ty] at h
  | .inn _ _, .flt _ _, h, _ => by simp [EV.ty] at h
  | .inn p e, .inn q f, _, h => by
    simp [EV.body] at h
    rw [h.1, EV.inj e f h.2.1 h.2.2]
open Classical in
noncomputable def edepth (E : Value) : Nat := if h : ∃ e : EV, E = .iface e.ty e.body then h.choose.depth else 0
theorem edepth_eq (e : EV) : edepth (.iface e.ty e.body) = e.depth := by
  unfold edepth
  have h : ∃ f : EV, Value.iface e.ty e.body = .iface f.ty f.body := ⟨e, rfl⟩
  rw [dif_pos h]
  have h2 := h.choose_spec
  injection h2 with h3 h4
  rw [← EV.inj e h.choose h3 h4]

theorem noAs30 (v : Value) (xT : TypeId) (w : World) : (Instr.typeAssert (.iface 30 v) xT 83 true).run Tryd.prog w = .ok (.tuple #[.nilIface, .bool false]) w := run_typeAssert_lacksB Tryd.underlying83 (by kernel_rfl) (by kernel_rfl) v xT w
theorem noAs48 (v : Value) (xT : TypeId) (w : World) : (Instr.typeAssert (.iface 48 v) xT 83 true).run Tryd.prog w = .ok (.tuple #[.nilIface, .bool false]) w := run_typeAssert_lacksB Tryd.underlying83 (by kernel_rfl) (by kernel_rfl) v xT w
theorem noAs54 (v : Value) (xT : TypeId) (w : World) : (Instr.typeAssert (.iface 54 v) xT 83 true).run Tryd.prog w = .ok (.tuple #[.nilIface, .bool false]) w := run_typeAssert_lacksB Tryd.underlying83 (by kernel_rfl) (by kernel_rfl) v xT w
theorem noUn30 (v : Value) (xT : TypeId) (w : World) : (Instr.typeAssert (.iface 30 v) xT 55 true).run Tryd.prog w = .ok (.tuple #[.nilIface, .bool false]) w := run_typeAssert_lacksB Tryd.underlying55 (by kernel_rfl) (by kernel_rfl) v xT w
theorem noUs30 (v : Value) (xT : TypeId) (w : World) : (Instr.typeAssert (.iface 30 v) xT 78 true).run Tryd.prog w = .ok (.tuple #[.nilIface, .bool false]) w := run_typeAssert_lacksB Tryd.underlying78 (by kernel_rfl) (by kernel_rfl) v xT w
theorem hasUn48 (v : Value) (xT : TypeId) (w : World) : (Instr.typeAssert (.iface 48 v) xT 55 true).run Tryd.prog w = .ok (.tuple #[.iface 48 v, .bool true]) w := run_typeAssert_hasB Tryd.underlying55 (by kernel_rfl) v xT w
theorem hasUn54 (v : Value) (xT : TypeId) (w : World) : (Instr.typeAssert (.iface 54 v) xT 55 true).run Tryd.prog w = .ok (.tuple #[.iface 54 v, .bool true]) w := run_typeAssert_hasB Tryd.underlying55 (by kernel_rfl) v xT w

theorem unFault (c a : Int) (w : World) : Calls Tryd.prog 63 #[.agg #[.int .i64 c, .int .i64 a]] w fun e w' => e = .returned (.iface 30 (.int .i64 c)) ∧ Below w.heap.size w w' := by
  go_enter Tryd.func63, Tryd.ntmps63
  go_wp2
  go_ret
  exact ⟨rfl, (Below.refl _ w).alloc (Nat.le_refl _) _⟩
theorem unInner (p : ByteArray) (v : Value) (w : World) : Calls Tryd.prog 65 #[.agg #[.string p, v]] w fun e w' => e = .returned v ∧ Below w.heap.size w w' := by
  go_enter Tryd.func65, Tryd.ntmps65
  go_wp2
  go_ret
  exact ⟨rfl, (Below.refl _ w).alloc (Nat.le_refl _) _⟩

set_option maxRecDepth 100000 in
set_option maxHeartbeats 8000000 in
theorem as27_code (e : EV) (T B : Nat) (old : Value) (w : World) (hB : w.cell? ⟨B, 0, none⟩ = some (.pointer (some ⟨T, 0, none⟩))) (ht : w.cell? ⟨T, 0, none⟩ = some old) (hf : w.frozen? ⟨T, 0, none⟩ = false) :
    Calls Tryd.prog 27 #[.iface e.ty e.body, .iface 50 (.pointer (some ⟨T, 0, none⟩)), .agg #[.pointer (some ⟨5, 50, none⟩), .pointer (some ⟨B, 0, none⟩), .int .u64 150], .iface 73 (.agg #[.pointer (some ⟨5, 30, none⟩)])] w
      fun r w' => r = .returned (.bool true) ∧ w'.cell? ⟨T, 0, none⟩ = some (.int .i64 e.cod) ∧ Below T w w' := by
  have HB := Lib.hid hB
  have HT := Lib.hid ht
  have HF := Lib.hid hf
  have hbl := lt_of_cell hB
  have htl := lt_of_cell ht
  clear hB ht hf
  go_enter Tryd.func27, Tryd.ntmps27
  have x22 := hTypeOf
  have x70 := hAsg
  have x28 := hVElem
  have x24 := hValueOf
  have x29 := hSet
  have to30 := to
  go_wp2
  obtain ⟨w1, hw1⟩ : ∃ w1, w.alloc (.cells #[.pointer (some ⟨5, 50, none⟩), .pointer (some ⟨B, 0, none⟩), .int .u64 150] 65) = w1 := ⟨_, rfl⟩
  have hb1 : Below w.heap.size w w1 := by rw [← hw1]; exact (Below.refl _ w).alloc (Nat.le_refl _) _
  have hs1 : w1.heap.size = w.heap.size + 1 := by rw [← hw1]; simp
  have c0 : w1.cell? ⟨w.heap.size, 0, none⟩ = some (.pointer (some ⟨5, 50, none⟩)) := by rw [← hw1]; simp
  have c1 : w1.cell? ⟨w.heap.size, 1, none⟩ = some (.pointer (some ⟨B, 0, none⟩)) := by rw [← hw1]; simp
  have c2 : w1.cell? ⟨w.heap.size, 2, none⟩ = some (.int .u64 150) := by rw [← hw1]; simp
  have HC0 := Lib.hid c0
  have HC1 := Lib.hid c1
  have HC2 := Lib.hid c2
  have HB1 := Lib.hid hb1
  rw [hw1]
  clear hw1 hb1 c0 c1 c2
  go_loopw [0] (fun E wl => ∃ e' : EV, E = .iface e'.ty e'.body ∧ e'.cod = e.cod ∧ Below w1.heap.size w1 wl) (fun E _ => edepth E)
  case atStart => exact ⟨e, rfl, rfl, Below.refl _ _⟩
  case round =>
    obtain ⟨e', rfl, hc, hbw⟩ := hrel
    have c0 := (hbw.cell (p := ⟨w.heap.size, 0, none⟩) (by show w.heap.size < _; omega)).trans HC0.out
    have c1 := (hbw.cell (p := ⟨w.heap.size, 1, none⟩) (by show w.heap.size < _; omega)).trans HC1.out
    have c2 := (hbw.cell (p := ⟨w.heap.size, 2, none⟩) (by show w.heap.size < _; omega)).trans HC2.out
    have HW := Lib.hid hbw
    have hbB := (hbw.cell (p := ⟨B, 0, none⟩) (by have : B < w.heap.size := hbl; show B < _; omega)).trans ((HB1.out.cell (p := ⟨B, 0, none⟩) hbl).trans HB.out)
    have hbT := (hbw.cell (p := ⟨T, 0, none⟩) (by have : T < w.heap.size := htl; show T < _; omega)).trans ((HB1.out.cell (p := ⟨T, 0, none⟩) htl).trans HT.out)
    have hsw := hbw.size
    clear hbw
    cases e' with
    | code c =>
      have hcc : c = e.cod := hc
      simp only [EV.ty, EV.body]
      have a30 := asg 30 30 true (by decide)
      have el := elemV1 ⟨B, 0, none⟩ ⟨T, 0, none⟩ wr hbB
      have vv := vf3 c
      have hbf : (wr.alloc (.cells #[.int .i64 c] 30)).frozen? ⟨T, 0, none⟩ = false := by
        rw [World.frozen?_alloc_old _ _ ⟨T, 0, none⟩ (by have : T < w.heap.size := htl; show T ≠ _; omega)]
        have h1 := HW.out.block T (by have : T < w.heap.size := htl; omega)
        have h2 := HB1.out.block T htl
        have h3 := HF.out
        unfold World.frozen? at h3 ⊢
        rw [h1, h2]; exact h3
      have st := set1 ⟨T, 0, none⟩ ⟨wr.heap.size, 0, none⟩ c old (wr.alloc (.cells #[.int .i64 c] 30)) (by simp) (by rw [World.cell?_alloc_lt _ _ ⟨T, 0, none⟩ (by have : T < w.heap.size := htl; show T < _; omega)]; exact hbT) hbf
      have HCC := Lib.hid hcc
      have HFF := Lib.hid hbf
      clear hcc hc
      go_wp2
      go_ret
      refine ⟨rfl, ?_, ?_⟩
      · rw [← HCC.out]
        have hct : (wr.alloc (.cells #[.int .i64 c] 30)).cell? ⟨T, 0, none⟩ = some old := by rw [World.cell?_alloc_lt _ _ ⟨T, 0, none⟩ (by have : T < w.heap.size := htl; show T < _; omega)]; exact hbT
        exact World.cell?_setCell_same _ _ _ hct
      · have h1 : Below w.heap.size w wr := HB1.out.trans (HW.out.mono HB1.out.size)
        have hlt : T < w.heap.size := htl
        have h2 : Below T w wr := h1.mono (Nat.le_of_lt hlt)
        have h3 : Below T w (wr.alloc (.cells #[.int .i64 c] 30)) := h2.alloc (by omega) _
        exact h3.setCell (p := ⟨T, 0, none⟩) (Nat.le_refl _) _
    | flt c a =>
      have HCC := Lib.hid (show c = e.cod from hc)
      clear hc
      simp only [EV.ty, EV.body]
      have a30 := asg 48 30 false (by decide)
      have n83 := noAs48
      have h55 := hasUn48
      go_wp2
      go_roundw
      case rel => exact ⟨EV.code c, rfl, HCC.out, HW.out.alloc hsw _⟩
      case measure =>
        have h1 := edepth_eq (EV.code c)
        have h2 := edepth_eq (EV.flt c a)
        show edepth (.iface (EV.code c).ty (EV.code c).body) < edepth (.iface (EV.flt c a).ty (EV.flt c a).body)
        rw [h1, h2]; exact Nat.lt_succ_self 0
    | inn p e2 =>
      have HCC := Lib.hid (show e2.cod = e.cod from hc)
      clear hc
      simp only [EV.body]
      have a30 := asg 54 30 false (by decide)
      have n83 := noAs54
      have h55 := hasUn54
      obtain ⟨ty2, hty⟩ : ∃ t, t = e2.ty := ⟨_, rfl⟩
      obtain ⟨bd2, hbd⟩ : ∃ t, t = e2.body := ⟨_, rfl⟩
      rw [← hty, ← hbd]
      have HTY := Lib.hid hty
      have HBD := Lib.hid hbd
      clear hty hbd
      simp only [EV.ty]
      go_wp2
      go_roundw
      case rel => exact ⟨e2, by show Value.iface ty2 bd2 = .iface e2.ty e2.body; rw [HTY.out, HBD.out], HCC.out, HW.out.alloc hsw _⟩
      case measure =>
        have h1 := edepth_eq e2
        have h2 := edepth_eq (EV.inn p e2)
        show edepth (.iface ty2 bd2) < edepth (.iface 54 (.agg #[.string p, .iface ty2 bd2]))
        rw [HTY.out, HBD.out, h1]
        show e2.depth < edepth (.iface (EV.inn p e2).ty (EV.inn p e2).body)
        rw [h2]
        exact Nat.lt_succ_self _
end Go.Proofs.YtlaofaopajcfkaaDoor

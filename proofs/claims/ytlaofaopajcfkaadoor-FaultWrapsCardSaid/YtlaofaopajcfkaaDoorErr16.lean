/- errors.Unwrap and errors.Is at the errors of the package. -/
import Derived.Test.YtlaofaopajcfkaaDoorErr15
namespace Go.Proofs.YtlaofaopajcfkaaDoor
set_option maxRecDepth 100000
open Go.RowKit Go.Extern.Stop Go.Stop Go.Extern

theorem unwrap_inn (p : ByteArray) (e : EV) (w : World) : Calls Tryd.prog 17 #[.iface (EV.inn p e).ty (EV.inn p e).body] w fun r w' => r = .returned (.iface e.ty e.body) ∧ Below w.heap.size w w' := by
  show Calls Tryd.prog 17 #[.iface 54 (.agg #[.string p, .iface e.ty e.body])] w _
  generalize e.ty = ty
  generalize e.body = bd
  have h55 := hasUn54
  go_enter Tryd.func17, Tryd.ntmps17
  go_wp2
  go_ret
  exact ⟨rfl, (Below.refl _ w).alloc (Nat.le_refl _) _⟩
theorem noIs30 (v : Value) (xT : TypeId) (w : World) : (Instr.typeAssert (.iface 30 v) xT 75 true).run Tryd.prog w = .ok (.tuple #[.nilIface, .bool false]) w := run_typeAssert_lacksB Tryd.underlying75 (by kernel_rfl) (by kernel_rfl) v xT w
theorem noIs48 (v : Value) (xT : TypeId) (w : World) : (Instr.typeAssert (.iface 48 v) xT 75 true).run Tryd.prog w = .ok (.tuple #[.nilIface, .bool false]) w := run_typeAssert_lacksB Tryd.underlying75 (by kernel_rfl) (by kernel_rfl) v xT w
theorem noIs54 (v : Value) (xT : TypeId) (w : World) : (Instr.typeAssert (.iface 54 v) xT 75 true).run Tryd.prog w = .ok (.tuple #[.nilIface, .bool false]) w := run_typeAssert_lacksB Tryd.underlying75 (by kernel_rfl) (by kernel_rfl) v xT w
theorem eq54 (v u : Value) (w : World) : (binOp .eql 28 (.iface 54 v) (.iface 30 u)).run Tryd.prog w = .ok (.bool false) w := by kernel_rfl
theorem eq48 (v u : Value) (w : World) : (binOp .eql 28 (.iface 48 v) (.iface 30 u)).run Tryd.prog w = .ok (.bool false) w := by kernel_rfl
theorem eq30 (c k : Int) (w : World) : (binOp .eql 28 (.iface 30 (.int .i64 c)) (.iface 30 (.int .i64 k))).run Tryd.prog w = .ok (.bool (c == k)) w := by kernel_rfl

set_option maxHeartbeats 8000000 in
theorem is23 (e : EV) (k : Int) (w : World) :
    Calls Tryd.prog 23 #[.iface e.ty e.body, .iface 30 (.int .i64 k), .bool true] w fun r w' => r = .returned (.bool (e.cod == k)) ∧ Below w.heap.size w w' := by
  have q1 := eq54
  have q2 := eq48
  have q3 := eq30
  go_enter Tryd.func23, Tryd.ntmps23
  go_wp2
  go_loopw [0] (fun E wl => ∃ e' : EV, E = .iface e'.ty e'.body ∧ e'.cod = e.cod ∧ Below w.heap.size w wl) (fun E _ => edepth E)
  case atStart => exact ⟨e, rfl, rfl, Below.refl _ _⟩
  case round =>
    obtain ⟨e', rfl, hc, hbw⟩ := hrel
    have HW := Lib.hid hbw
    have hsw := hbw.size
    clear hbw
    cases e' with
    | code c =>
      have hcc : c = e.cod := hc
      subst hcc
      clear hc
      simp only [EV.ty, EV.body]
      have n75 := noIs30
      have n55 := noUn30
      have n78 := noUs30
      cases hk : (e.cod == k)
      all_goals go_wp2
      all_goals go_ret
      all_goals first | exact ⟨rfl, HW.out⟩ | exact ⟨by rw [hk]; rfl, HW.out⟩
    | flt c a =>
      have HCC := Lib.hid (show c = e.cod from hc)
      clear hc
      simp only [EV.ty, EV.body]
      have n75 := noIs48
      have h55 := hasUn48
      go_wp2
      go_roundw
      case rel => exact ⟨EV.code c, rfl, HCC.out, HW.out.alloc hsw _⟩
      case measure =>
        have h1 := edepth_eq (EV.code c)
        have h2 := edepth_eq (EV.flt c a)
        show edepth (.iface (EV.code c).ty (EV.code c).body) < edepth (.iface (EV.flt c a).ty (EV.flt c a).body)
        rw [h1, h2]; exact Nat.lt_succ_self 0
    | inn p e2 =>
      have HCC := Lib.hid (show e2.cod = e.cod from hc)
      clear hc
      simp only [EV.body]
      have n75 := noIs54
      have h55 := hasUn54
      obtain ⟨ty2, hty⟩ : ∃ t, t = e2.ty := ⟨_, rfl⟩
      obtain ⟨bd2, hbd⟩ : ∃ t, t = e2.body := ⟨_, rfl⟩
      rw [← hty, ← hbd]
      have HTY := Lib.hid hty
      have HBD := Lib.hid hbd
      clear hty hbd
      simp only [EV.ty]
      go_wp2
      go_roundw
      case rel => exact ⟨e2, by show Value.iface ty2 bd2 = .iface e2.ty e2.body; rw [HTY.out, HBD.out], HCC.out, HW.out.alloc hsw _⟩
      case measure =>
        have h1 := edepth_eq e2
        have h2 := edepth_eq (EV.inn p e2)
        show edepth (.iface ty2 bd2) < edepth (.iface 54 (.agg #[.string p, .iface ty2 bd2]))
        rw [HTY.out, HBD.out, h1]
        show e2.depth < edepth (.iface (EV.inn p e2).ty (EV.inn p e2).body)
        rw [h2]
        exact Nat.lt_succ_self _

theorem hCmp (args : Array Value) (w : World) : (callFunc 71 args).run Tryd.prog w = ((ReflectliteType.method fun t => do Go.Extern.Rtype.noPackHeld "Comparable" t; pure (.bool (← typeInfo t).comparable)) args |>.run Tryd.prog w).andThen fun v w2 => Result.ok (Next.value v) w2 := @run_callFunc_extern Tryd.prog 71 _ (ReflectliteType.method fun t => do Go.Extern.Rtype.noPackHeld "Comparable" t; pure (.bool (← typeInfo t).comparable)) Tryd.func71 (by kernel_rfl) (by kernel_rfl) (by kernel_rfl) (by kernel_rfl) args w
theorem cmp30 (w : World) : ((ReflectliteType.method fun t => do Go.Extern.Rtype.noPackHeld "Comparable" t; (fun a : TypeInfo => Value.bool a.comparable) <$> typeInfo t) #[.agg #[.pointer (some ⟨5, 30, none⟩)]]).run Tryd.prog w = .ok (.bool true) w := by kernel_rfl
theorem is_any (e : EV) (k : Int) (w : World) : Calls Tryd.prog 18 #[.iface e.ty e.body, .iface 30 (.int .i64 k)] w fun r w' => r = .returned (.bool (e.cod == k)) ∧ Below w.heap.size w w' := by
  have x22 := hTypeOf
  have to30 := to
  have x71 := hCmp
  have c30 := cmp30
  obtain ⟨R, hR⟩ : ∃ R, R = (e.cod == k) := ⟨_, rfl⟩
  rw [← hR]
  have HR := Lib.hid hR
  clear hR
  go_enter Tryd.func18, Tryd.ntmps18
  go_wp2_with fail
  refine (is23 e k _).mono ?_
  rintro r w1 ⟨rfl, hb1⟩
  rw [← HR.out]
  have HB1 := Lib.hid hb1
  clear hb1
  go_wp2
  go_ret
  exact ⟨rfl, HB1.out⟩
end Go.Proofs.YtlaofaopajcfkaaDoor

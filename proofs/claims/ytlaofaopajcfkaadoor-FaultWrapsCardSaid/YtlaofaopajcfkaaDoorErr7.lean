/- errors.As at *api.Fault; fault.At, Shift. -/
import Derived.Test.YtlaofaopajcfkaaDoorErr6
namespace Go.Proofs.YtlaofaopajcfkaaDoor
open Go.RowKit Go.Extern.Stop Go.Stop Go.Extern

set_option maxRecDepth 100000 in
set_option maxHeartbeats 8000000 in
theorem as_fault (e : EV) (T : Nat) (w : World) (hg : TypOk w) (ht : w.cell? ⟨T, 0, none⟩ = some (.int .i64 0)) (ht1 : w.cell? ⟨T, 1, none⟩ = some (.int .i64 0)) (hf : w.frozen? ⟨T, 0, none⟩ = false) (hf1 : w.frozen? ⟨T, 1, none⟩ = false) :
    Calls Tryd.prog 20 #[.iface e.ty e.body, .iface 51 (.pointer (some ⟨T, 0, none⟩))] w fun r w' => r = .returned (.bool e.off.isSome) ∧ w'.cell? ⟨T, 1, none⟩ = some (.int .i64 (e.off.getD 0)) ∧ Below T w w' := by
  obtain ⟨ty, hty⟩ : ∃ t, t = e.ty := ⟨_, rfl⟩
  obtain ⟨bd, hbd⟩ : ∃ t, t = e.body := ⟨_, rfl⟩
  rw [← hty, ← hbd]
  have HTY := Lib.hid hty
  have HBD := Lib.hid hbd
  have HT := Lib.hid ht
  have HF := Lib.hid hf
  have HG := Lib.hid hg
  have htl : T < w.heap.size := lt_of_cell ht
  have hgl : 1 < w.heap.size := lt_of_cell hg
  have x24 := hValueOf
  have x25 := hType
  have x26 := hIsNil
  have x44 := hKind
  have x72 := hElem
  have x73 := hImpl
  have v1 := vf2
  have t1 := ty2
  have k1 := kd 51 22 (by decide)
  have k2 := kd 48 25 (by decide)
  have e1 := el2
  have i1 := im2
  have n1 := isNil2 ⟨w.heap.size, 0, none⟩ ⟨T, 0, none⟩ ((w.alloc (.cells #[.pointer (some ⟨T, 0, none⟩)] 51)).alloc (.cells #[.pointer (some ⟨5, 51, none⟩), .pointer (some ⟨w.heap.size, 0, none⟩), .int .u64 150] 65)) (by simp)
  have hg2 : ((w.alloc (.cells #[.pointer (some ⟨T, 0, none⟩)] 51)).alloc (.cells #[.pointer (some ⟨5, 51, none⟩), .pointer (some ⟨w.heap.size, 0, none⟩), .int .u64 150] 65)).cell? ⟨1, 0, none⟩ = some (.iface 73 (.agg #[.pointer (some ⟨5, 28, none⟩)])) := by
    rw [World.cell?_alloc_lt _ _ ⟨1, 0, none⟩ (by simp; omega), World.cell?_alloc_lt _ _ ⟨1, 0, none⟩ hgl]; exact hg
  have hB2 : ((w.alloc (.cells #[.pointer (some ⟨T, 0, none⟩)] 51)).alloc (.cells #[.pointer (some ⟨5, 51, none⟩), .pointer (some ⟨w.heap.size, 0, none⟩), .int .u64 150] 65)).cell? ⟨w.heap.size, 0, none⟩ = some (.pointer (some ⟨T, 0, none⟩)) := by
    rw [World.cell?_alloc_lt _ _ ⟨w.heap.size, 0, none⟩ (by simp)]; simp
  have hT2 : ((w.alloc (.cells #[.pointer (some ⟨T, 0, none⟩)] 51)).alloc (.cells #[.pointer (some ⟨5, 51, none⟩), .pointer (some ⟨w.heap.size, 0, none⟩), .int .u64 150] 65)).cell? ⟨T, 0, none⟩ = some (.int .i64 0) := by
    rw [World.cell?_alloc_lt _ _ ⟨T, 0, none⟩ (by simp; omega), World.cell?_alloc_lt _ _ ⟨T, 0, none⟩ htl]; exact ht
  have hT3 : ((w.alloc (.cells #[.pointer (some ⟨T, 0, none⟩)] 51)).alloc (.cells #[.pointer (some ⟨5, 51, none⟩), .pointer (some ⟨w.heap.size, 0, none⟩), .int .u64 150] 65)).cell? ⟨T, 1, none⟩ = some (.int .i64 0) := by
    rw [World.cell?_alloc_lt _ _ ⟨T, 1, none⟩ (by simp; omega), World.cell?_alloc_lt _ _ ⟨T, 1, none⟩ htl]; exact ht1
  have hF3 : ((w.alloc (.cells #[.pointer (some ⟨T, 0, none⟩)] 51)).alloc (.cells #[.pointer (some ⟨5, 51, none⟩), .pointer (some ⟨w.heap.size, 0, none⟩), .int .u64 150] 65)).frozen? ⟨T, 1, none⟩ = false := by
    rw [World.frozen?_alloc_old _ _ ⟨T, 1, none⟩ (by simp; omega), World.frozen?_alloc_old _ _ ⟨T, 1, none⟩ (Nat.ne_of_lt htl)]; exact hf1
  have HT3 := Lib.hid hT3
  have HF3 := Lib.hid hF3
  have hF2 : ((w.alloc (.cells #[.pointer (some ⟨T, 0, none⟩)] 51)).alloc (.cells #[.pointer (some ⟨5, 51, none⟩), .pointer (some ⟨w.heap.size, 0, none⟩), .int .u64 150] 65)).frozen? ⟨T, 0, none⟩ = false := by
    rw [World.frozen?_alloc_old _ _ ⟨T, 0, none⟩ (by simp; omega), World.frozen?_alloc_old _ _ ⟨T, 0, none⟩ (Nat.ne_of_lt htl)]; exact hf
  have HB2 := Lib.hid hB2
  have HT2 := Lib.hid hT2
  have HF2 := Lib.hid hF2
  clear hty hbd ht hf ht1 hf1 hg hB2 hT2 hF2 hT3 hF3
  go_enter Tryd.func20, Tryd.ntmps20
  go_wp2_with fail
  rw [HTY.out, HBD.out]
  refine (as27_fault e T _ _ HB2.out HT2.out HT3.out HF2.out HF3.out).mono ?_
  rintro r w3 ⟨rfl, hc3, hb3⟩
  have HC3 := Lib.hid hc3
  have hb : Below T w ((w.alloc (.cells #[.pointer (some ⟨T, 0, none⟩)] 51)).alloc (.cells #[.pointer (some ⟨5, 51, none⟩), .pointer (some ⟨w.heap.size, 0, none⟩), .int .u64 150] 65)) :=
    (((Below.refl _ w).mono (Nat.le_of_lt htl)).alloc (Nat.le_of_lt htl) _).alloc (by simp; omega) _
  have HB3 := Lib.hid (hb.trans hb3)
  clear hc3 hb3 hb
  go_wp2
  go_ret
  exact ⟨rfl, HC3.out, HB3.out⟩

theorem at_nil (w : World) : Calls Tryd.prog 11 #[.nilIface] w fun e w' => e = .returned (.tuple #[.int .i64 0, .bool false]) ∧ Below w.heap.size w w' := by
  go_enter Tryd.func11, Tryd.ntmps11
  go_wp2_with (go_at_call 20; refine (as_nil _ _).mono ?_; rintro e w' ⟨rfl, rfl⟩)
  go_ret2
  exact ⟨rfl, (Below.refl _ w).alloc (Nat.le_refl _) _⟩
theorem at_any (e : EV) (w : World) (hg : TypOk w) : Calls Tryd.prog 11 #[.iface e.ty e.body] w fun r w' => r = .returned (.tuple #[.int .i64 (e.off.getD 0), .bool e.off.isSome]) ∧ Below w.heap.size w w' := by
  have HG := Lib.hid (hg.below ((Below.refl _ w).alloc (Nat.le_refl _) (.cells #[.int .i64 0, .int .i64 0] 48)))
  have hB := Lib.hid ((Below.refl _ w).alloc (Nat.le_refl _) (.cells #[.int .i64 0, .int .i64 0] 48))
  obtain ⟨b, hb⟩ : ∃ b, b = e.off.isSome := ⟨_, rfl⟩
  obtain ⟨o, ho⟩ : ∃ o, o = e.off.getD 0 := ⟨_, rfl⟩
  rw [← hb, ← ho]
  have HBB := Lib.hid hb
  have HOO := Lib.hid ho
  clear hg hb ho
  go_enter Tryd.func11, Tryd.ntmps11
  go_wp2_with fail
  refine (as_fault e w.heap.size _ HG.out (by simp) (by simp) (by simp) (by simp)).mono ?_
  rintro r w2 ⟨rfl, hc, hb⟩
  rw [← HOO.out] at hc
  rw [← HBB.out]
  have HB := Lib.hid (hB.out.trans hb)
  clear hb HG hB
  go_wp2
  go_ret2
  exact ⟨rfl, HB.out⟩
theorem shift_nil (n : Int) (w : World) : Calls Tryd.prog 13 #[.nilIface, .int .i64 n] w fun e w' => e = .returned .nilIface ∧ Below w.heap.size w w' := by
  go_enter Tryd.func13, Tryd.ntmps13
  go_wp2_with fail
  refine (code_nil _).mono ?_
  rintro e w1 ⟨rfl, hb⟩
  have HB := Lib.hid hb
  clear hb
  go_wp2
  go_ret
  exact ⟨rfl, HB.out⟩
theorem shift_any (e : EV) (n : Int) (w : World) (hg : TypOk w) (h0 : -9223372036854775808 ≤ e.off.getD 0 + n) (h1 : e.off.getD 0 + n ≤ 9223372036854775807) : Calls Tryd.prog 13 #[.iface e.ty e.body, .int .i64 n] w fun r w' => r = .returned (.iface (EV.flt e.cod (e.off.getD 0 + n)).ty (EV.flt e.cod (e.off.getD 0 + n)).body) ∧ Below w.heap.size w w' := by
  have HG := Lib.hid hg
  obtain ⟨o, ho⟩ : ∃ o, o = e.off.getD 0 := ⟨_, rfl⟩
  rw [← ho] at h0 h1 ⊢
  have HO := Lib.hid ho
  have hw : IntKind.i64.wrap (o + n) = o + n := by rw [IntKind.wrap_i64]; omega
  clear hg ho
  go_enter Tryd.func13, Tryd.ntmps13
  go_wp2_with fail
  refine (code_any e _ HG.out).mono ?_
  rintro r w1 ⟨rfl, hb⟩
  have HG1 := Lib.hid (HG.out.below hb)
  have HB1 := Lib.hid hb
  clear hb HG
  go_wp2_with fail
  refine (at_any e _ HG1.out).mono ?_
  rintro r w2 ⟨rfl, hb⟩
  rw [← HO.out]
  have HB2 := Lib.hid (HB1.out.trans (hb.mono HB1.out.size))
  clear hb HG1 HB1
  go_wp2_with fail
  refine (new_any _ _ _).mono ?_
  rintro r w3 ⟨rfl, rfl⟩
  go_wp2
  go_ret
  exact ⟨rfl, HB2.out⟩
end Go.Proofs.YtlaofaopajcfkaaDoor

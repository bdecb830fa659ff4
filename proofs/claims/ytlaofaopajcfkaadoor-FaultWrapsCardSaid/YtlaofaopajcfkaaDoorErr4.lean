/- errors.As at *api.Code; fault.Code. -/
import Derived.Test.YtlaofaopajcfkaaDoorErr3
namespace Go.Proofs.YtlaofaopajcfkaaDoor
open Go.RowKit Go.Extern.Stop Go.Stop Go.Extern

/-- errors.errorType is what the text lays -/
def TypOk (w : World) : Prop := w.cell? ⟨1, 0, none⟩ = some (.iface 73 (.agg #[.pointer (some ⟨5, 28, none⟩)]))
theorem TypOk.below {w w' : World} (h : TypOk w) (hb : Below w.heap.size w w') : TypOk w' := (hb.cell (p := ⟨1, 0, none⟩) (lt_of_cell h)).trans h

set_option maxRecDepth 100000 in
set_option maxHeartbeats 8000000 in
theorem as_code (e : EV) (T : Nat) (old : Value) (w : World) (hg : TypOk w) (ht : w.cell? ⟨T, 0, none⟩ = some old) (hf : w.frozen? ⟨T, 0, none⟩ = false) :
    Calls Tryd.prog 20 #[.iface e.ty e.body, .iface 50 (.pointer (some ⟨T, 0, none⟩))] w fun r w' => r = .returned (.bool true) ∧ w'.cell? ⟨T, 0, none⟩ = some (.int .i64 e.cod) ∧ Below T w w' := by
  obtain ⟨ty, hty⟩ : ∃ t, t = e.ty := ⟨_, rfl⟩
  obtain ⟨bd, hbd⟩ : ∃ t, t = e.body := ⟨_, rfl⟩
  rw [← hty, ← hbd]
  have HTY := Lib.hid hty
  have HBD := Lib.hid hbd
  have HT := Lib.hid ht
  have HF := Lib.hid hf
  have HG := Lib.hid hg
  have htl : T < w.heap.size := lt_of_cell ht
  have hgl : 1 < w.heap.size := lt_of_cell hg
  have x24 := hValueOf
  have x25 := hType
  have x26 := hIsNil
  have x44 := hKind
  have x72 := hElem
  have x73 := hImpl
  have v1 := vf1
  have t1 := ty1
  have k1 := kd 50 22 (by decide)
  have k2 := kd 30 2 (by decide)
  have e1 := el1
  have i1 := im1
  have n1 := isNil1 ⟨w.heap.size, 0, none⟩ ⟨T, 0, none⟩ ((w.alloc (.cells #[.pointer (some ⟨T, 0, none⟩)] 50)).alloc (.cells #[.pointer (some ⟨5, 50, none⟩), .pointer (some ⟨w.heap.size, 0, none⟩), .int .u64 150] 65)) (by simp)
  have hg2 : ((w.alloc (.cells #[.pointer (some ⟨T, 0, none⟩)] 50)).alloc (.cells #[.pointer (some ⟨5, 50, none⟩), .pointer (some ⟨w.heap.size, 0, none⟩), .int .u64 150] 65)).cell? ⟨1, 0, none⟩ = some (.iface 73 (.agg #[.pointer (some ⟨5, 28, none⟩)])) := by
    rw [World.cell?_alloc_lt _ _ ⟨1, 0, none⟩ (by simp; omega), World.cell?_alloc_lt _ _ ⟨1, 0, none⟩ hgl]; exact hg
  have hB2 : ((w.alloc (.cells #[.pointer (some ⟨T, 0, none⟩)] 50)).alloc (.cells #[.pointer (some ⟨5, 50, none⟩), .pointer (some ⟨w.heap.size, 0, none⟩), .int .u64 150] 65)).cell? ⟨w.heap.size, 0, none⟩ = some (.pointer (some ⟨T, 0, none⟩)) := by
    rw [World.cell?_alloc_lt _ _ ⟨w.heap.size, 0, none⟩ (by simp)]; simp
  have hT2 : ((w.alloc (.cells #[.pointer (some ⟨T, 0, none⟩)] 50)).alloc (.cells #[.pointer (some ⟨5, 50, none⟩), .pointer (some ⟨w.heap.size, 0, none⟩), .int .u64 150] 65)).cell? ⟨T, 0, none⟩ = some old := by
    rw [World.cell?_alloc_lt _ _ ⟨T, 0, none⟩ (by simp; omega), World.cell?_alloc_lt _ _ ⟨T, 0, none⟩ htl]; exact ht
  have hF2 : ((w.alloc (.cells #[.pointer (some ⟨T, 0, none⟩)] 50)).alloc (.cells #[.pointer (some ⟨5, 50, none⟩), .pointer (some ⟨w.heap.size, 0, none⟩), .int .u64 150] 65)).frozen? ⟨T, 0, none⟩ = false := by
    rw [World.frozen?_alloc_old _ _ ⟨T, 0, none⟩ (by simp; omega), World.frozen?_alloc_old _ _ ⟨T, 0, none⟩ (Nat.ne_of_lt htl)]; exact hf
  have HB2 := Lib.hid hB2
  have HT2 := Lib.hid hT2
  have HF2 := Lib.hid hF2
  clear hty hbd ht hf hg hB2 hT2 hF2
  go_enter Tryd.func20, Tryd.ntmps20
  go_wp2_with fail
  rw [HTY.out, HBD.out]
  refine (as27_code e T _ old _ HB2.out HT2.out HF2.out).mono ?_
  rintro r w3 ⟨rfl, hc3, hb3⟩
  have HC3 := Lib.hid hc3
  have hb : Below T w ((w.alloc (.cells #[.pointer (some ⟨T, 0, none⟩)] 50)).alloc (.cells #[.pointer (some ⟨5, 50, none⟩), .pointer (some ⟨w.heap.size, 0, none⟩), .int .u64 150] 65)) :=
    (((Below.refl _ w).mono (Nat.le_of_lt htl)).alloc (Nat.le_of_lt htl) _).alloc (by simp; omega) _
  have HB3 := Lib.hid (hb.trans hb3)
  clear hc3 hb3 hb
  go_wp2
  go_ret
  exact ⟨rfl, HC3.out, HB3.out⟩
end Go.Proofs.YtlaofaopajcfkaaDoor

/- fault.Code; In; New. -/
import Derived.Test.YtlaofaopajcfkaaDoorErr4
namespace Go.Proofs.YtlaofaopajcfkaaDoor
open Go.RowKit Go.Extern.Stop Go.Stop Go.Extern

theorem as_nil (t : Value) (w : World) :
    Calls Tryd.prog 20 #[.nilIface, t] w fun e w' => e = .returned (.bool false) ∧ w = w' := by
  go_enter Tryd.func20, Tryd.ntmps20
  go_wp2
  go_ret
  exact ⟨rfl, rfl⟩
theorem code_nil (w : World) : Calls Tryd.prog 10 #[.nilIface] w fun e w' => e = .returned (.tuple #[.int .i64 0, .bool false]) ∧ Below w.heap.size w w' := by
  go_enter Tryd.func10, Tryd.ntmps10
  go_wp2_with (go_at_call 20; refine (as_nil _ _).mono ?_; rintro e w' ⟨rfl, rfl⟩)
  go_ret2
  exact ⟨rfl, (Below.refl _ w).alloc (Nat.le_refl _) _⟩
theorem code_any (e : EV) (w : World) (hg : TypOk w) : Calls Tryd.prog 10 #[.iface e.ty e.body] w fun r w' => r = .returned (.tuple #[.int .i64 e.cod, .bool true]) ∧ Below w.heap.size w w' := by
  have HG := Lib.hid (hg.below ((Below.refl _ w).alloc (Nat.le_refl _) (.cells #[.int .i64 0] 30)))
  have hB := Lib.hid ((Below.refl _ w).alloc (Nat.le_refl _) (.cells #[.int .i64 0] 30))
  clear hg
  go_enter Tryd.func10, Tryd.ntmps10
  go_wp2_with fail
  refine (as_code e w.heap.size (.int .i64 0) _ HG.out (by simp) (by simp)).mono ?_
  rintro r w2 ⟨rfl, hc, hb⟩
  have HB := Lib.hid (hB.out.trans hb)
  clear hb HG hB
  go_wp2
  go_ret2
  exact ⟨rfl, HB.out⟩
theorem in_nil (p : ByteArray) (w : World) : Calls Tryd.prog 16 #[.string p, .nilIface] w fun e w' => e = .returned .nilIface ∧ w = w' := by
  go_enter Tryd.func16, Tryd.ntmps16
  go_wp2
  go_ret
  exact ⟨rfl, rfl⟩
theorem in_any (p : ByteArray) (e : EV) (w : World) : Calls Tryd.prog 16 #[.string p, .iface e.ty e.body] w fun r w' => r = .returned (.iface (EV.inn p e).ty (EV.inn p e).body) ∧ w = w' := by
  go_enter Tryd.func16, Tryd.ntmps16
  go_wp2
  go_ret
  exact ⟨rfl, rfl⟩
theorem new_any (c a : Int) (w : World) : Calls Tryd.prog 19 #[.int .i64 c, .int .i64 a] w fun r w' => r = .returned (.iface (EV.flt c a).ty (EV.flt c a).body) ∧ w = w' := by
  go_enter Tryd.func19, Tryd.ntmps19
  go_wp2
  go_ret
  exact ⟨rfl, rfl⟩

theorem set2 (T b : Nat) (c a : Int) (old old2 : Value) (W : World) (hb : W.cell? ⟨b, 0, none⟩ = some (.int .i64 c)) (hb1 : W.cell? ⟨b, 1, none⟩ = some (.int .i64 a)) (ht : W.cell? ⟨T, 0, none⟩ = some old) (ht1 : W.cell? ⟨T, 1, none⟩ = some old2) (hf : W.frozen? ⟨T, 0, none⟩ = false) (hf1 : W.frozen? ⟨T, 1, none⟩ = false) :
    (ReflectliteValue.set #[.agg #[.pointer (some ⟨5, 48, none⟩), .pointer (some ⟨T, 0, none⟩), .int .u64 409], .agg #[.pointer (some ⟨5, 48, none⟩), .pointer (some ⟨b, 0, none⟩), .int .u64 153]]).run Tryd.prog W
      = .ok (.tuple #[]) ((W.setCell ⟨T, 0, none⟩ (.int .i64 c)).setCell ⟨T, 1, none⟩ (.int .i64 a)) := by
  rw [rls]
  simp only [Sem.run_bind, partsA2, partsE2, Result.andThen]
  have hl : (loadCells ⟨b, 0, none⟩ 2).run Tryd.prog W = .ok #[.int .i64 c, .int .i64 a] W := run_loadCells_list (P := Tryd.prog) (w := W) ⟨b, 0, none⟩ [.int .i64 c, .int .i64 a] (fun j v hj => by
    match j, hj with
    | 0, hj => cases hj; exact hb
    | 1, hj => cases hj; exact hb1)
  simp [ReflectliteValue.flagAddr, loadVar, isAgg, underlying, Tryd.underlying48, hl, Result.andThen, direct2, storeVar, Value.cells, storeCells, Addr.add]
  rw [run_store Tryd.prog W ⟨T, 0, none⟩ _ _ (by rfl)]
  simp only [ht, hf, Bool.false_eq_true, if_false]
  rw [run_store Tryd.prog _ ⟨T, 1, none⟩ _ _ (by rfl)]
  have e1 : (W.setCell ⟨T, 0, none⟩ (.int .i64 c)).cell? ⟨T, 1, none⟩ = some old2 := by rw [World.cell?_setCell_other _ _ _ _ (show (⟨T, 0, none⟩ : Addr) ≠ ⟨T, 1, none⟩ by simp)]; exact ht1
  have e2 : (W.setCell ⟨T, 0, none⟩ (.int .i64 c)).frozen? ⟨T, 1, none⟩ = false := by rw [World.frozen?_setCell]; exact hf1
  simp [e1, e2]
end Go.Proofs.YtlaofaopajcfkaaDoor

/- A list of operations that neither calls nor draws, run by the kernel. -/
import Derived.Test.YtoioindpmgkefaaDoorBase
namespace Go.Proofs.YtoioindpmgkefaaDoor
open Go.RowKit

/-- the operations one after the other; none where one of them calls, defers or stops -/
def runOps (P : Program) (ops : Array Oper) : List Oper → Act → World → Option (Act × World)
  | [], a, w => some (a, w)
  | o :: rest, a, w =>
    match Region.wanted o (yielded ops a.tmps) with
    | true =>
      match (execOp a.eval o).run P w with
      | .ok (.value v) w' => runOps P ops rest (a.put o.dst v) w'
      | .ok .skip w' => runOps P ops rest (a.put o.dst undef) w'
      | _ => none
    | false => runOps P ops rest (a.put o.dst undef) w

theorem wpList_of_run {P : Program} {ops : Array Oper} {Q : Exit → Act → World → Prop} : ∀ (l : List Oper) (a : Act) (w : World) (r : Act × World), runOps P ops l a w = some r → Q .normal r.1 r.2 → wpList P ops Q l a w := by
  intro l
  induction l with
  | nil =>
    intro a w r h hQ
    simp only [runOps, Option.some.injEq] at h
    subst h
    exact wpList_nil hQ
  | cons o rest ih =>
    intro a w r h hQ
    refine wpList_step fun K hK => ?_
    unfold runOps at h
    cases hw : Region.wanted o (yielded ops a.tmps) with
    | false =>
      rw [hw] at h
      simp only [Bool.false_eq_true, if_false]
      exact hK _ _ (ih _ _ _ h hQ)
    | true =>
      rw [hw] at h
      simp only [if_true]
      unfold Oper.wp
      cases hr : (execOp a.eval o).run P w with
      | halt h1 w1 => rw [hr] at h; cases h
      | ok n w1 =>
        rw [hr] at h
        cases n with
        | value v => exact hK _ _ (ih _ _ _ h hQ)
        | skip => exact hK _ _ (ih _ _ _ h hQ)
        | _ => cases h

/-- .. where only one slot is read behind them -/
theorem wpList_of_end {P : Program} {ops : Array Oper} {Q : Exit → Act → World → Prop} {l : List Oper} {a : Act} {w : World} (j : Nat) (v : Value) (W : World)
    (hv : (runOps P ops l a w).map (fun r => r.1.tmps.getD j undef) = some v) (hw : (runOps P ops l a w).map (fun r => r.2) = some W) (hd : (runOps P ops l a w).map (fun r => r.1.defers) = some [])
    (h : ∀ a', a'.tmps.getD j undef = v → a'.defers = [] → Q .normal a' W) : wpList P ops Q l a w := by
  cases hr : runOps P ops l a w with
  | none => rw [hr] at hv; cases hv
  | some r =>
    rw [hr] at hv hw hd
    obtain rfl := Option.some.inj hw
    exact wpList_of_run l a w r hr (h r.1 (Option.some.inj hv) (Option.some.inj hd))

end Go.Proofs.YtoioindpmgkefaaDoor

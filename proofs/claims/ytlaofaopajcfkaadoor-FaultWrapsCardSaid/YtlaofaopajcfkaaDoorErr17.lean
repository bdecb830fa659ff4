/- strconv: the number of digits, whatever the table of powers holds. -/
import Derived.Test.YtlaofaopajcfkaaDoorErr16
import Derived.Test.YtlaofaopajcfkaaDoorShelf
import Derived.Lib.ItoaWalk
namespace Go.Proofs.YtlaofaopajcfkaaDoor
set_option maxRecDepth 100000
set_option linter.unusedVariables false
open Go.RowKit

/-- the table of powers of ten, as it stands -/
def TabP (w : World) (tb : Nat → Int) : Prop := ∀ i, i < 20 → w.cell? ⟨2, i, none⟩ = some (.int .u64 (tb i))
theorem TabP.below {w w' : World} {tb : Nat → Int} (h : TabP w tb) (hb : Below w.heap.size w w') : TabP w' tb := fun i hi => (hb.cell (p := ⟨2, i, none⟩) (lt_of_cell (h i hi))).trans (h i hi)
theorem tab_begin : ((begin Tryd.prog (fun _ _ => 0) default).world.heap[2]?).bind Obj.row? = some (Array.replicate 20 (.int .u64 0), 111) := by kernel_rfl
theorem tab_types : Tryd.prog.cellTypes Tryd.prog.depth 111 = some (List.replicate 20 103) := by kernel_rfl
theorem tab_of_shape {W : World} (h : W.ShapedOpen Tryd.prog) : ∃ tb, TabP W tb := by
  obtain ⟨cs, hh, hs, hr⟩ := h.1 2 _ _ (by decide +kernel) tab_begin
  obtain ⟨ts, hts, _, hall⟩ := hr (by kernel_rfl)
  rw [tab_types] at hts
  obtain rfl := (Option.some.inj hts).symm
  refine ⟨fun i => match cs[i]? with | some (.int _ n) => n | _ => 0, fun i hi => ?_⟩
  have hlt : i < cs.size := by rw [hs]; simpa using hi
  obtain ⟨u, hu, hok⟩ := hall i cs[i] (by simp [hlt])
  have hi20 : i % (List.replicate 20 103).length = i := by rw [List.length_replicate]; omega
  rw [hi20, List.getElem?_replicate, if_pos hi] at hu
  obtain rfl := Option.some.inj hu
  have hcell : W.cell? ⟨2, i, none⟩ = some cs[i] := by simp [World.cell?, hh, hlt]
  rw [hcell]
  have hx : cs[i]? = some cs[i] := by simp [hlt]
  simp only [hx]
  generalize cs[i] = v at hok
  simp only [Cell.ok, Tryd.underlying103] at hok
  cases v <;> simp_all

theorem l10_le : ∀ x, x ≤ 64 → Lib.l10 x ≤ 19 := by
  intro x h
  unfold Lib.l10
  omega
theorem bitLen_le (x : Nat) : Lib.bitLen x ≤ 64 := by
  unfold Lib.bitLen
  have : ∀ f x, Lib.bitLenAux f x ≤ f := fun f => by
    induction f with
    | zero => intro x; exact Nat.le_refl _
    | succ f ih => intro x; unfold Lib.bitLenAux; have := ih (x / 2); split <;> omega
  exact this 64 x
/-- how many digits numDigits counts, the table being tb -/
def ndN (tb : Nat → Int) (u : Nat) : Nat := Lib.l10 (Lib.bitLen u) + if tb (Lib.l10 (Lib.bitLen u)) ≤ u then 1 else 0
theorem ndN_le (tb : Nat → Int) (u : Nat) : ndN tb u ≤ 20 := by
  have := l10_le _ (bitLen_le u)
  unfold ndN
  split <;> omega
theorem numDigits_any (tb : Nat → Int) (u : Nat) (w : World) (h2 : u < 18446744073709551616) (ht : TabP w tb) : Calls Tryd.prog 52 #[.int .u64 u] w fun e w' => e = .returned (.int .i64 (ndN tb u : Nat)) ∧ w = w' := by
  obtain ⟨t, hte⟩ : ∃ t, t = Lib.l10 (Lib.bitLen u) := ⟨_, rfl⟩
  have htl : t ≤ 19 := by rw [hte]; exact l10_le _ (bitLen_le u)
  have hc := ht t (by omega)
  have HT := Lib.hid hte
  obtain ⟨R, hR⟩ : ∃ R, R = ndN tb u := ⟨_, rfl⟩
  rw [← hR]
  have HR := Lib.hid hR
  clear hte hR ht
  go_enter Tryd.func52, Tryd.ntmps52
  go_wp2_with fail
  refine (Tryd.bits_Len64 u _ (by omega) (by omega)).mono ?_
  rintro e w' ⟨rfl, rfl⟩
  rw [Int.toNat_natCast]
  go_wp2_with fail
  refine (Tryd.internal_strconv_log10Pow2 (Lib.bitLen u) (bitLen_le u) _).mono ?_
  rintro e w'' ⟨rfl, rfl⟩
  rw [← HT.out]
  by_cases hle : tb t ≤ u
  · have d1 : decide (tb t ≤ (u : Int)) = true := decide_eq_true hle
    have hr : R = t + 1 := by rw [HR.out, ndN, ← HT.out, if_pos hle]
    clear hle
    go_wp2_with fail
    refine (Tryd.internal_strconv_bool2_int _ _).mono ?_
    rintro e w3 ⟨rfl, rfl⟩
    go_wp2
    go_ret
    exact ⟨by rw [hr]; simp, rfl⟩
  · have d1 : decide (tb t ≤ (u : Int)) = false := decide_eq_false hle
    have hr : R = t := by rw [HR.out, ndN, ← HT.out, if_neg hle]; rfl
    clear hle
    go_wp2_with fail
    refine (Tryd.internal_strconv_bool2_int _ _).mono ?_
    rintro e w3 ⟨rfl, rfl⟩
    go_wp2
    go_ret
    exact ⟨by rw [hr]; simp, rfl⟩
end Go.Proofs.YtlaofaopajcfkaaDoor

/- The argument: an error of the reference implementation, opened from the row. -/
import Derived.Test.YtlaofaopajcfkaaDoorErr12
import Derived.OpenShut
import Derived.Deep.Strs
import Derived.WideShapes
namespace Go.Proofs.YtlaofaopajcfkaaDoor
open Go.RowKit Go.ChangeShapes Go.WideShapes

/-- a slice that reads as the strings ps -/
def Strs (w : World) (a : Option Addr) (n : Nat) (ps : List ByteArray) : Prop :=
  ps.length = n ∧ ∃ b off, (a = some ⟨b, off, none⟩ ∨ n = 0) ∧ ∀ j, j < n → b < w.heap.size ∧ w.cell? ⟨b, off + j, none⟩ = some (.string (ps.getD j ⟨#[]⟩)) ∧ (ps.getD j ⟨#[]⟩).size ≤ 9223372036854775807
theorem Strs.below {w w' : World} {a : Option Addr} {n : Nat} {ps : List ByteArray} (h : Strs w a n ps) (hb : Below w.heap.size w w') : Strs w' a n ps := by
  obtain ⟨hl, b, off, ha, hc⟩ := h
  exact ⟨hl, b, off, ha, fun j hj => ⟨Nat.lt_of_lt_of_le (hc j hj).1 hb.size, (hb.cell (p := ⟨b, off + j, none⟩) (hc j hj).1).trans (hc j hj).2.1, (hc j hj).2.2⟩⟩

theorem open_strsArg {H : Type} {enc : TypeId × Value → H} {W : World} {cs : List Value} {d : DataW H × List MemPlace} {fuel : Nat}
    (hf : DataW.trod enc Tryd.prog W 0 (fun _ => true) true fuel 22 cs = some d) : ∃ a n c ps, cs = [.slice a n c] ∧ Strs W a n ps ∧ n ≤ c ∧ c ≤ 9223372036854775807 := by
  rcases Deep.open_strs Tryd.underlying22 Tryd.underlying9 (by kernel_rfl) hf with ⟨h, _⟩ | ⟨x, len, cap, m, Sx, hcs, _, hl, hm, hmm, _, hcell⟩
  · exact ⟨none, 0, 0, [], h, ⟨rfl, 0, 0, .inr rfl, fun j hj => absurd hj (by omega)⟩, by omega, by omega⟩
  · simp only [if_true] at hmm
    subst hmm
    refine ⟨_, _, _, (List.range len).map Sx, hcs, ⟨by simp, ?_⟩, hl, by unfold maxLen at hm; exact hm⟩
    by_cases hn : len = 0
    · exact ⟨0, 0, .inr hn, fun j hj => absurd hj (by omega)⟩
    · obtain ⟨b, off, sp⟩ := x
      have hsp : sp = none := by
        have h0 := (hcell 0 (by omega)).1
        simp only [Addr.add, if_pos] at h0
        simp only [World.cell?] at h0
        split at h0
        · cases sp <;> simp_all
        · cases h0
      subst hsp
      refine ⟨b, off, .inl rfl, fun j hj => ?_⟩
      have h := hcell j (by omega)
      rw [Addr.add_lit] at h
      have e : ((List.range len).map Sx).getD j ⟨#[]⟩ = Sx j := by simp [List.getD, hj]
      rw [e]
      refine ⟨lt_of_cell h.1, h.1, ?_⟩
      have := h.2
      unfold maxLen at this
      exact this

set_option maxRecDepth 100000 in
theorem open_err {H : Type} {enc : TypeId × Value → H} {W : World} {v : Value} {d : DataW H × List MemPlace} {fuel : Nat} {base : Nat}
    (hv : Value.okWide Tryd.prog W .any base 24 v) (hf : DataW.trod enc Tryd.prog W 0 (fun _ => true) true fuel 24 v.cells.toList = some d) :
    ∃ ni a n c ps cod at' fl, v = .agg #[.bool ni, .slice a n c, .int .i64 cod, .int .i64 at', .bool fl] ∧ Strs W a n ps ∧ n ≤ c ∧ c ≤ 9223372036854775807 ∧ (Lit.int .i64 cod).wf = true ∧ (Lit.int .i64 at').wf = true := by
  obtain ⟨cs, rfl, hcs⟩ := okWide_struct Tryd.underlying24 hv
  rw [show Tryd.prog.cellsOf 24 = 5 by kernel_rfl] at hcs
  obtain ⟨xs, m, _, rfl, _, hxl, hfd⟩ := DataW.trod_struct Tryd.underlying24 hf
  obtain ⟨l⟩ := cs
  match l, hcs with
  | [c0, c1, c2, c3, c4], _ =>
    match xs, hxl with
    | [y0, y1, y2, y3, y4], _ =>
      have f0 : DataW.trod enc Tryd.prog W 0 (fun _ => true) true m 4 [c0] = some y0 := hfd 0 _ rfl
      have f1 : DataW.trod enc Tryd.prog W 0 (fun _ => true) true m 22 [c1] = some y1 := hfd 1 _ rfl
      have f2 : DataW.trod enc Tryd.prog W 0 (fun _ => true) true m 3 [c2] = some y2 := hfd 2 _ rfl
      have f3 : DataW.trod enc Tryd.prog W 0 (fun _ => true) true m 3 [c3] = some y3 := hfd 3 _ rfl
      have f4 : DataW.trod enc Tryd.prog W 0 (fun _ => true) true m 4 [c4] = some y4 := hfd 4 _ rfl
      obtain ⟨ni, e0, _⟩ := DataW.trod_bool Tryd.underlying4 f0
      obtain ⟨a, n, c, ps, e1, hs, hc, hc2⟩ := open_strsArg f1
      obtain ⟨cod, e2, _, w2⟩ := DataW.trod_int Tryd.underlying3 f2
      obtain ⟨at', e3, _, w3⟩ := DataW.trod_int Tryd.underlying3 f3
      obtain ⟨fl, e4, _⟩ := DataW.trod_bool Tryd.underlying4 f4
      cases e0; cases e1; cases e2; cases e3; cases e4
      exact ⟨ni, a, n, c, ps, cod, at', fl, rfl, hs, hc, hc2, w2, w3⟩
end Go.Proofs.YtlaofaopajcfkaaDoor

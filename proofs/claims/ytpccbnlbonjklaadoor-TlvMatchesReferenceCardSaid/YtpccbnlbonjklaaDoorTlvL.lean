/- What the rows' condition gives; frames as an argument. -/
import Derived.Test.YtpccbnlbonjklaaDoorTlv11
import Derived.LaidLaws
import Derived.LaidHandle
import Derived.OpenShut
import Derived.ShutString
import Derived.Deep.SlicePairs
import Derived.SizedLaws
import Derived.WideShapes
namespace Go.Proofs.YtpccbnlbonjklaaDoor
set_option maxRecDepth 100000
open Go.RowKit Go.ChangeShapes Go.WideShapes

theorem gTyp : Tryd.prog.globalNamed "errors.errorType" = some 0 := by kernel_rfl
theorem rType : (Tryd.prog.cutTypes.find? (·.1 == "internal/reflectlite.rtype")).map (·.2) = some 109 := by kernel_rfl
theorem tySize : Tryd.prog.types.size = 154 := by kernel_rfl
theorem oneRow : ((List.range 154).filter fun t => Tryd.prog.rowNamed t [101, 114, 114, 111, 114]) = [26] := by kernel_rfl
theorem laid_of {W : World} (h : laidMetH Tryd.prog [("errors.errorType", Rows.laid_errors_errorType)] W) : Er.TypOk W := by
  have h' : laidMet Tryd.prog [] W ∧ handlesMet Tryd.prog [("errors.errorType", Rows.laid_errors_errorType)] W := h
  obtain ⟨name, u, ty, e1, e2, e3, e4, e5⟩ := h'.2 _ (List.mem_singleton.2 rfl)
  have en : name = [101, 114, 114, 111, 114] := (Option.some.inj e1).symm
  subst en
  obtain rfl := Option.some.inj (rType.symm.trans e2)
  have hm : ty ∈ (List.range 154).filter fun t => Tryd.prog.rowNamed t [101, 114, 114, 111, 114] := List.mem_filter.2 ⟨List.mem_range.2 (by rw [← tySize]; exact e3), e4⟩
  rw [oneRow] at hm
  obtain rfl := List.mem_singleton.1 hm
  have hh : typeHandle Tryd.prog 26 = .pointer (some ⟨1, 26, none⟩) := by kernel_rfl
  rw [hh] at e5
  simpa [Er.TypOk] using World.var?_cell gTyp e5 0

theorem weightsAll_mem {H : Type} {P : Program} {e : TypeId} : ∀ {l : List (DataW H)} {d : DataW H}, d ∈ l → ∀ n ∈ d.weights P e, n ∈ DataW.weightsAll P e l
  | d' :: r, d, hd, n, hn => by
    simp only [DataW.weightsAll, List.mem_append]
    rcases List.mem_cons.1 hd with rfl | h
    · exact Or.inl hn
    · exact Or.inr (weightsAll_mem h n hn)
instance : Inhabited Fr := ⟨⟨0, ⟨none, 0, 0, []⟩⟩⟩

theorem open_frames {H : Type} {enc : TypeId × Value → H} {W : World} {v : Value} {d : DataW H} {p : List MemPlace} {fuel : Nat} {base : Nat} {ts : List TypeId} {ds : List (DataW H)} {j : Nat}
    (hv : Value.okWide Tryd.prog W .any base 29 v) (hf : DataW.trod enc Tryd.prog W 0 (fun _ => true) true fuel 29 v.cells.toList = some (d, p))
    (hs : (DataW.weightsEach Tryd.prog ts ds).all (· ≤ reachBytes) = true) (ht : ts[j]? = some 29) (hd : ds[j]? = some d) :
    ∃ a n c fs, v = .slice a n c ∧ Frs W a n c fs ∧ ∀ f ∈ fs, f.p.n ≤ 140737488351232 := by
  obtain ⟨a, n, c, rfl⟩ := okWide_slice Tryd.underlying29 hv
  rcases Deep.open_slice_pairs Tryd.underlying29 Tryd.underlying51 (by kernel_rfl) rfl rfl (by kernel_rfl) (by kernel_rfl) hf with ⟨h, _⟩ | ⟨x, len, cap, m, q, V0, V1, D0, D1, P0, P1, hcs, _, hl, hm, hmm, hx, hcell⟩
  · simp [Value.cells] at h
    obtain ⟨rfl, rfl, rfl⟩ := h
    exact ⟨none, 0, 0, [], rfl, Frs.nil W, fun f hf => by cases hf⟩
  · simp [Value.cells] at hcs
    obtain ⟨rfl, rfl, rfl⟩ := hcs
    simp only [if_true] at hmm
    subst hmm
    simp only [Prod.mk.injEq] at hx
    obtain ⟨rfl, _⟩ := hx
    have each : ∀ i, i < n → ∃ f : Fr, V0 i = .int .u16 f.t ∧ V1 i = .slice f.p.a f.p.n f.p.c ∧ f.ok W ∧ f.p.n ≤ 140737488351232 := fun i hi => by
      obtain ⟨_, _, h2, h3⟩ := hcell i (by omega)
      obtain ⟨z, e1, _, w1⟩ := DataW.trod_int Tryd.underlying45 h2
      have e1' : V0 i = .int .u16 z := by simpa using e1
      have hz := bounds_u16 w1
      rcases open_ints Tryd.underlying22 Tryd.underlying5 (by kernel_rfl) h3 with ⟨h, _⟩ | ⟨y, l, k, zs, h, _, hl2, hm2, hz2, hD, hcell2, hwz⟩
      · exact ⟨⟨z, ⟨none, 0, 0, []⟩⟩, e1', by simpa using h, ⟨Ints.nil _ _, (fun z hz => by cases hz), hz.1, hz.2⟩, by show 0 ≤ _; omega⟩
      · have h' : V1 i = .slice (some y) l k := by simpa using h
        simp only [if_true] at hz2
        have hri := row_ints (k := .u8) (w := W) (a := some y) (len := l) (cap := k) (zs := zs) (.inr ⟨y, rfl, hl2, hm2, hz2, hcell2, hwz⟩)
        have hD1 : D1 i = .slice (lits .u8 (zs.take l)) (lits .u8 (zs.drop l)) := (Prod.mk.inj hD).1
        have hby : Tryd.prog.bytesOf 5 = 1 := by kernel_rfl
        have hmem : (DataW.agg [D0 i, D1 i] : DataW H) ∈ (List.range n).map fun i => DataW.agg [D0 i, D1 i] := List.mem_map.2 ⟨i, List.mem_range.2 hi, rfl⟩
        have hw2 : ((lits .u8 (zs.take l) : List (DataW H)).length + (lits .u8 (zs.drop l) : List (DataW H)).length) * Tryd.prog.bytesOf 5 ≤ reachBytes := by
          refine of_decide_eq_true (List.all_eq_true.1 hs _ (DataW.weights_mem_each ht hd _ ?_))
          simp only [DataW.weights, Tryd.underlying29, List.mem_cons, List.mem_append]
          refine Or.inr (Or.inl (weightsAll_mem hmem _ ?_))
          simp [DataW.weights, DataW.weightsEach, Tryd.underlying51, Tryd.underlying22, hD1]
        have hre : reachBytes = 140737488351232 := rfl
        rw [hby, hre] at hw2
        simp only [lits, List.length_map, List.length_take, List.length_drop] at hw2
        exact ⟨⟨z, ⟨some y, l, k, zs.take l⟩⟩, e1', h', ⟨hri.1, row_byt hri.2, hz.1, hz.2⟩, by show l ≤ _; omega⟩
    obtain ⟨F, hF⟩ := Deep.choose_lt each
    refine ⟨some x, n, _, (List.range n).map F, rfl, ⟨by simp, hl, by unfold maxLen at hm; exact hm, ?_, fun f hf => ?_⟩, fun f hf => ?_⟩
    · by_cases hn : n = 0
      · exact ⟨0, 0, .inr (by omega), fun j hj => absurd hj (by omega)⟩
      · obtain ⟨b, off, sp⟩ := x
        have hsp : sp = none := by
          have h0 := (hcell 0 (by omega)).1
          rw [Nat.zero_mul] at h0
          simp only [Addr.add, if_pos] at h0
          simp only [World.cell?] at h0
          split at h0
          · cases sp <;> simp_all
          · cases h0
        subst hsp
        refine ⟨b, off, .inl rfl, fun i hi => ?_⟩
        have h := hcell i (by omega)
        have h2 := hF i hi
        rw [Addr.add_lit, Addr.add_lit] at h
        have e : fr ((List.range n).map F) i = F i := by simp [fr, List.getD, hi]
        rw [e, ← h2.1, ← h2.2.1]
        exact ⟨lt_of_cell h.1, h.1, by rw [Nat.add_assoc]; exact h.2.1⟩
    · obtain ⟨i, hi, rfl⟩ := List.mem_map.1 hf
      exact (hF i (List.mem_range.1 hi)).2.2.1
    · obtain ⟨i, hi, rfl⟩ := List.mem_map.1 hf
      exact (hF i (List.mem_range.1 hi)).2.2.2
end Go.Proofs.YtpccbnlbonjklaaDoor

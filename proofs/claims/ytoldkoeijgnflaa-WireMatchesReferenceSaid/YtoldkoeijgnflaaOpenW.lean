/- What the rows' readings of a slice of reads and of a slice of slices give. -/
import Derived.Test.YtoldkoeijgnflaaWMatch
import Derived.Test.YtoldkoeijgnflaaWJoin
import Derived.Deep.SlicePairs
import Derived.Deep.Matrix
import Derived.SizedLaws
namespace Go.Proofs.Ytoldkoeijgnflaa
open Go.RowKit Go.ChangeShapes

theorem nth_range (n : Nat) (f : Nat → Int) {j : Nat} (h : j < n) : nth ((List.range n).map f) j = f j := by
  rw [nth_lt (by simpa using h)]; simp

theorem open_ops {H : Type} {enc : TypeId × Value → H} {W : World} {a : Option Addr} {n c : Nat} {d : DataW H} {p : List MemPlace} {fuel : Nat}
    (hf : DataW.trod enc Try.prog W 0 (fun _ => true) true fuel 23 [.slice a n c] = some (d, p)) : ∃ ks ns, Ops W a n ks ns ∧ n ≤ c ∧ c ≤ 9223372036854775807 := by
  rcases Deep.open_slice_pairs Try.underlying23 Try.underlying28 (by kernel_rfl) rfl rfl (by kernel_rfl) (by kernel_rfl) hf with ⟨h, _⟩ | ⟨x, len, cap, m, q, V0, V1, D0, D1, P0, P1, hcs, _, hl, hm, hmm, _, hcell⟩
  · simp at h
    obtain ⟨rfl, rfl, rfl⟩ := h
    exact ⟨[], [], ⟨rfl, rfl, 0, 0, .inr (Nat.le_refl _), fun j hj => absurd hj (by omega)⟩, by omega, by omega⟩
  · simp at hcs
    obtain ⟨rfl, rfl, rfl⟩ := hcs
    simp only [if_true] at hmm
    subst hmm
    have hv : ∀ i, i < n → W.cell? (x.add (i * 2)) = some (.int .i64 (intOf (V0 i))) ∧ W.cell? (x.add (i * 2 + 1)) = some (.int .i64 (intOf (V1 i))) := fun i hi => by
      obtain ⟨h0, h1, h2, h3⟩ := hcell i (by omega)
      obtain ⟨z, e1, _⟩ := DataW.trod_int Try.underlying3 h2
      obtain ⟨y, e2, _⟩ := DataW.trod_int Try.underlying3 h3
      have e1' : V0 i = .int .i64 z := by simpa using e1
      have e2' : V1 i = .int .i64 y := by simpa using e2
      rw [h0, h1, e1', e2']
      exact ⟨rfl, rfl⟩
    refine ⟨(List.range n).map fun i => intOf (V0 i), (List.range n).map fun i => intOf (V1 i), ⟨by simp, by simp, ?_⟩, hl, by unfold maxLen at hm; exact hm⟩
    by_cases hn : n = 0
    · exact ⟨0, 0, .inr (by omega), fun j hj => absurd hj (by omega)⟩
    · obtain ⟨b, off, sp⟩ := x
      have hsp : sp = none := by
        have h0 := (hv 0 (by omega)).1
        rw [Nat.zero_mul] at h0
        simp only [Addr.add, if_pos] at h0
        simp only [World.cell?] at h0
        split at h0
        · cases sp <;> simp_all
        · cases h0
      subst hsp
      refine ⟨b, off, .inl rfl, fun j hj => ?_⟩
      have h := hv j hj
      rw [Addr.add_lit, Addr.add_lit] at h
      rw [nth_range n _ hj, nth_range n _ hj]
      exact ⟨lt_of_cell h.1, h.1, h.2⟩

theorem weightsAll_mem {H : Type} {P : Program} {e : TypeId} : ∀ {l : List (DataW H)} {d : DataW H}, d ∈ l → ∀ n ∈ d.weights P e, n ∈ DataW.weightsAll P e l
  | d' :: r, d, hd, n, hn => by
    simp only [DataW.weightsAll, List.mem_append]
    rcases List.mem_cons.1 hd with rfl | h
    · exact Or.inl hn
    · exact Or.inr (weightsAll_mem h n hn)
theorem sized_inner {H : Type} {P : Program} {ts : List TypeId} {ds : List (DataW H)} (h : (DataW.weightsEach P ts ds).all (· ≤ reachBytes) = true) {j : Nat} {t e q : TypeId} {elems spare e' sp' : List (DataW H)}
    (ht : ts[j]? = some t) (hd : ds[j]? = some (.slice elems spare)) (hu : P.underlying t = some (.slice e)) (hu2 : P.underlying e = some (.slice q)) (hx : DataW.slice e' sp' ∈ elems) : (e'.length + sp'.length) * P.bytesOf q ≤ reachBytes := by
  refine of_decide_eq_true (List.all_eq_true.1 h _ (DataW.weights_mem_each ht hd _ ?_))
  simp only [DataW.weights, hu, List.mem_cons, List.mem_append]
  exact Or.inr (Or.inl (weightsAll_mem hx _ (by simp [DataW.weights, hu2])))

theorem open_parts {H : Type} {enc : TypeId × Value → H} {W : World} {a : Option Addr} {n c : Nat} {d : DataW H} {p : List MemPlace} {fuel : Nat} {ts : List TypeId} {ds : List (DataW H)} {j : Nat}
    (hf : DataW.trod enc Try.prog W 0 (fun _ => true) true fuel 47 [.slice a n c] = some (d, p)) (hs : (DataW.weightsEach Try.prog ts ds).all (· ≤ reachBytes) = true) (ht : ts[j]? = some 47) (hd : ds[j]? = some d) :
    ∃ ps, Parts W a n c ps ∧ ∀ q ∈ ps, q.n ≤ 140737488351232 := by
  rcases Deep.open_int_rows Try.underlying47 Try.underlying22 Try.underlying5 (by kernel_rfl) (by kernel_rfl) hf with ⟨h, _⟩ | ⟨x, len, cap, A, L, C, Z, hcs, _, hl, hm, hx, hrow⟩
  · simp at h
    obtain ⟨rfl, rfl, rfl⟩ := h
    exact ⟨[], ⟨Sl.nil W, fun q hq => by cases hq⟩, fun q hq => by cases hq⟩
  · simp at hcs
    obtain ⟨rfl, rfl, rfl⟩ := hcs
    simp only [Prod.mk.injEq] at hx
    obtain ⟨rfl, rfl⟩ := hx
    unfold maxLen at hm
    have hmem : ∀ q ∈ (List.range n).map (fun r => (⟨A r, L r, C r, (Z r).take (L r)⟩ : Part)), ∃ r, r < n ∧ q = ⟨A r, L r, C r, (Z r).take (L r)⟩ := fun q hq => by
      obtain ⟨r, hr, rfl⟩ := List.mem_map.1 hq
      exact ⟨r, List.mem_range.1 hr, rfl⟩
    refine ⟨(List.range n).map fun r => ⟨A r, L r, C r, (Z r).take (L r)⟩, ⟨⟨by simp, hl, by omega, (fun h => by cases h), fun hn => ?_⟩, fun q hq => ?_⟩, fun q hq => ?_⟩
    · obtain ⟨b, off, sp⟩ := x
      have hsp : sp = none := by
        have h0 := (hrow 0 (by omega)).1
        simp only [Addr.add, if_pos] at h0
        simp only [World.cell?] at h0
        split at h0
        · cases sp <;> simp_all
        · cases h0
      subst hsp
      have h0 := (hrow 0 (by omega)).1
      rw [Addr.add_lit] at h0
      refine ⟨b, off, rfl, lt_of_cell h0, fun i v hv => ?_⟩
      rw [List.map_map, List.getElem?_map] at hv
      obtain ⟨r, hr, rfl⟩ := Option.map_eq_some_iff.1 hv
      have hi : i < n := by have := (List.getElem?_eq_some_iff.1 hr).1; simpa using this
      rw [List.getElem?_eq_getElem (by simpa using hi), List.getElem_range] at hr
      cases hr
      have h1 := (hrow i (by omega)).1
      rw [Addr.add_lit] at h1
      exact h1
    · obtain ⟨r, hr, rfl⟩ := hmem q hq
      obtain ⟨h1, h2, h3, h4, h5, h6, h7⟩ := hrow r (by omega)
      have hri := row_ints (k := .u8) (w := W) (a := A r) (len := L r) (cap := C r) (zs := Z r) (by
        cases hA : A r with
        | none =>
          have := h6 hA
          exact .inl ⟨rfl, by omega, this, List.length_eq_zero_iff.1 (by omega)⟩
        | some ad => exact .inr ⟨ad, rfl, h2, h3, h4, fun i hi => (h7 ad hA).2 i (by omega), h5⟩)
      exact ⟨hri.1, row_byt hri.2⟩
    · obtain ⟨r, hr, rfl⟩ := hmem q hq
      obtain ⟨h1, h2, h3, h4, h5, h6, h7⟩ := hrow r (by omega)
      cases hA : A r with
      | none => have := h6 hA; show L r ≤ _; omega
      | some ad =>
        have hin := sized_inner hs ht hd Try.underlying47 Try.underlying22 (e' := lits .u8 ((Z r).take (L r))) (sp' := lits .u8 ((Z r).drop (L r))) (List.mem_map.2 ⟨r, List.mem_range.2 hr, by simp [Deep.intRow, hA]⟩)
        have hby : Try.prog.bytesOf 5 = 1 := by kernel_rfl
        rw [hby] at hin
        have hre : reachBytes = 140737488351232 := rfl
        simp only [lits, List.length_map, List.length_take, List.length_drop, hre] at hin
        show L r ≤ _
        omega

end Go.Proofs.Ytoldkoeijgnflaa

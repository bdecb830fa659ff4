/- address.Host. -/
import Derived.Test.YtmncmbbgdkkgaaaGreatDoorAd7
import Derived.ArgAppend
namespace Go.Proofs.YtmncmbbgdkkgaaaGreatDoor
set_option maxRecDepth 100000
set_option linter.unusedVariables false
open Go.RowKit

def numsB (s : ByteArray) : List Int := s.data.toList.map fun u => (u.toNat : Int)
theorem numsB_length (s : ByteArray) : (numsB s).length = s.size := by simp [numsB]
theorem numsB_byt (s : ByteArray) : Byt (numsB s) := by
  intro z hz
  obtain ⟨u, _, rfl⟩ := List.mem_map.1 hz
  have := u.toNat_lt
  omega
theorem bw_cell (w : World) (s : ByteArray) : ∀ (j : Nat) u, ((numsB s).map (Value.int .u8))[j]? = some u → (Lib.bytesWorld w 5 s).cell? ⟨w.heap.size, 0 + j, none⟩ = some u := by
  intro j u hu
  have hj : j < s.size := by
    have := (List.getElem?_eq_some_iff.1 hu).1
    simpa [numsB] using this
  rw [Nat.zero_add, Lib.bytesWorld_cell w _ s j hj]
  rw [← hu]
  simp [numsB, List.getD, hj]
theorem bw_spare (w : World) (s : ByteArray) (j : Nat) (hj : j < grownCap w s.size 0 5) : ((Lib.bytesWorld w 5 s).cell? ⟨w.heap.size, j, none⟩).isSome = true ∧ (Lib.bytesWorld w 5 s).frozen? ⟨w.heap.size, j, none⟩ = false := by
  have hge := grownCap_ge w s.size 0 5
  have hsz : (Lib.bytesCells w 5 s).size = grownCap w s.size 0 5 := by
    simp [Lib.bytesCells]; omega
  constructor
  · simp [World.cell?, Lib.bytesWorld_at_new, hsz, hj]
  · simp [World.frozen?, Lib.bytesWorld_at_new, hsz]; omega
theorem setCells_one {w : World} {b o : Nat} {v : Value} {B : Nat} (hb : B ≤ b) : Below B w (w.setCells b o [v]) := by
  show Below B w ((w.setCell ⟨b, o, none⟩ v).setCells b (o + 1) [])
  exact (Below.refl B w).setCell (p := ⟨b, o, none⟩) hb v
/-- one byte more behind bytes that lie in a block of the call's own, whatever it keeps in spare -/
theorem append_one {P : Program} (w : World) {ops : Array Oper} {rest : List Oper} {o : Oper} {a : Act} {Q : Exit → Act → World → Prop}
    (hg : o.guard = none) (s x : Operand) (t : TypeId) (hop : o.op = Op.call { callee := Callee.builtin Builtin.append, args := #[s, x], argTypes := #[t, t] })
    (e : TypeId) (i : TypeInfo) (h1 : P.underlying t = some (.slice e)) (h2 : P.info? e = some i) (h3 : i.zero = some (.int .u8 0)) (h4 : i.size = 1) (h5 : i.bytes = 1)
    (b n cap : Nat) (zs : List Int) (hs : a.eval s = .slice (some ⟨b, 0, none⟩) n cap) (hlo : zs.length = n) (holds : ∀ (j : Nat) u, (zs.map (Value.int .u8))[j]? = some u → w.cell? ⟨b, 0 + j, none⟩ = some u)
    (B1 c : Nat) (z : Int) (hx : a.eval x = .slice (some ⟨B1, 0, none⟩) 1 c) (hc : w.cell? ⟨B1, 0, none⟩ = some (.int .u8 z))
    (hspare : ∀ j, j < cap → (w.cell? ⟨b, j, none⟩).isSome = true ∧ w.frozen? ⟨b, j, none⟩ = false) (hle : n ≤ cap) (hcm : cap ≤ maxLen) (hblt : b < w.heap.size)
    (b1 : n + 1 ≤ 1000000) (N : Nat) (hN : N ≤ b)
    (h : ∀ a' c' w', Hid (Ints .u8 w' a' (n + 1) c' (zs ++ [z])) → Hid (Below N w w') → Hid (∀ x, a' = some x → N ≤ x.block) → wpList P ops Q rest (a.put o.dst (.slice a' (n + 1) c')) w') :
    wpList P ops Q (o :: rest) a w := by
  refine wpList_append_arg w hg s x t hop e i (.int .u8 0) 1 1 h1 h2 h3 h4 h5 rfl (by decide) b 0 n cap (zs.map (Value.int .u8)) hs (by simpa using hlo) holds ⟨B1, 0, none⟩ 1 c [.int .u8 z] hx rfl (fun j u hu => ?_) (by simp [Value.oneCell']) (fun hr j hj => ?_) (by unfold maxLen; omega) (by omega) (fun hr => ?_) (fun hr v' w' ho hgr => ?_)
  · match j, hu with
    | 0, hu => cases hu; rw [Addr.add_lit]; exact hc
  · have := hspare (0 + n * 1 + j) (by simp at hj; omega)
    exact this
  · have hsc : ∀ j, j < [Value.int .u8 z].length → (w.cell? ⟨b, 0 + n * 1 + j, none⟩).isSome = true := fun j hj => (hspare (0 + n * 1 + j) (by simp at hj; omega)).1
    refine h (some ⟨b, 0, none⟩) cap _ (Lib.hid ?_) (Lib.hid (setCells_one hN)) (Lib.hid (fun x hx => by cases hx; exact hN))
    refine ⟨by simpa using hlo, hr, by simpa [maxLen] using hcm, (fun h => by cases h), fun _ => ⟨b, 0, rfl, ?_, fun j v hv => ?_⟩⟩
    · have := (setCells_one (w := w) (b := b) (o := 0 + n * 1) (v := .int .u8 z) (Nat.le_refl b)).size
      omega
    · rw [List.map_append] at hv
      by_cases hj : j < n
      · rw [List.getElem?_append_left (by simpa using by omega)] at hv
        rw [World.cell?_setCells_out b _ _ _ _ (fun _ _ => .inl (by show 0 + j < 0 + n * 1; omega))]
        exact holds j v hv
      · rw [List.getElem?_append_right (by simpa using by omega)] at hv
        have hj1 := (List.getElem?_eq_some_iff.1 hv).1
        simp at hj1
        obtain rfl : j = n := by omega
        have h2 := World.cell?_setCells_in b [.int .u8 z] (0 + j * 1) w hsc 0 (by simp)
        have e1 : (⟨b, 0 + j, none⟩ : Addr) = ⟨b, 0 + j * 1 + 0, none⟩ := by simp
        rw [e1, h2]
        simp [hlo] at hv
        simp [hv]
  · obtain ⟨a', c', rfl, hi⟩ := Sl.own ho
    exact h a' c' w' (Lib.hid (by unfold Ints; rw [List.map_append]; exact hi)) (Lib.hid ((Below.refl N w).grown hgr (by omega) (fun k hk => by cases hk))) (Lib.hid (fun x hx => by subst hx; have := (ho.lt x.block rfl).1; omega))
end Go.Proofs.YtmncmbbgdkkgaaaGreatDoor

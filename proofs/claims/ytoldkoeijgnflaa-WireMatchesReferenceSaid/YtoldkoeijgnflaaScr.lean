/- Bytes that are written over: what stays. -/
import Derived.Test.YtoldkoeijgnflaaWawake
namespace Go.Proofs.Ytoldkoeijgnflaa
open Go.RowKit

/-- W' is as W, but that the bytes in the blocks of D may be other bytes -/
structure Scr (D : Nat → Prop) (W W' : World) : Prop where
  os : W'.os = W.os
  tape : W'.tape = W.tape
  output : W'.output = W.output
  size : W'.heap.size = W.heap.size
  block : ∀ k, ¬ D k → W'.heap[k]? = W.heap[k]?
  cell : ∀ b o z, W.cell? ⟨b, o, none⟩ = some (.int .u8 z) → 0 ≤ z → z < 256 → ∃ z', W'.cell? ⟨b, o, none⟩ = some (.int .u8 z') ∧ 0 ≤ z' ∧ z' < 256
  frozen : ∀ x, W'.frozen? x = W.frozen? x
theorem Scr.refl (D : Nat → Prop) (W : World) : Scr D W W := ⟨rfl, rfl, rfl, rfl, fun _ _ => rfl, fun _ _ z h h0 h1 => ⟨z, h, h0, h1⟩, fun _ => rfl⟩
theorem Scr.set {D : Nat → Prop} {W W' : World} (h : Scr D W W') {b o : Nat} {u : Value} (hD : D b) (hc : W'.cell? ⟨b, o, none⟩ = some u) {z : Int} (h0 : 0 ≤ z) (h1 : z < 256) : Scr D W (W'.setCell ⟨b, o, none⟩ (.int .u8 z)) := by
  refine ⟨h.os, h.tape, h.output, by rw [← h.size]; simp [World.setCell], fun k hk => (Below.heap_setCell _ _ _ k (fun e => hk (by rw [e]; exact hD))).trans (h.block k hk), ?_, fun x => by rw [World.frozen?_setCell]; exact h.frozen x⟩
  intro b' o' y hy hy0 hy1
  by_cases e : (⟨b, o, none⟩ : Addr) = ⟨b', o', none⟩
  · rw [← e]
    exact ⟨z, World.cell?_setCell_same _ _ _ hc, h0, h1⟩
  · rw [World.cell?_setCell_other _ _ _ _ e]
    exact h.cell b' o' y hy hy0 hy1
theorem Scr.drewN {D : Nat → Prop} {W W' : World} (h : Scr D W W') (q : Nat) : Scr D W (W'.drewN q) := ⟨h.os, h.tape, h.output, h.size, h.block, h.cell, h.frozen⟩
theorem Scr.trans {D : Nat → Prop} {X Y Z : World} (h : Scr D X Y) (k : Scr D Y Z) : Scr D X Z :=
  ⟨k.os.trans h.os, k.tape.trans h.tape, k.output.trans h.output, k.size.trans h.size, fun i hi => (k.block i hi).trans (h.block i hi),
    fun b o z hz h0 h1 => by obtain ⟨z', a, b', c⟩ := h.cell b o z hz h0 h1; exact k.cell _ _ z' a b' c, fun x => (k.frozen x).trans (h.frozen x)⟩
theorem Scr.mono {D E : Nat → Prop} {W W' : World} (h : Scr D W W') (hd : ∀ k, D k → E k) : Scr E W W' := ⟨h.os, h.tape, h.output, h.size, fun k hk => h.block k (fun e => hk (hd k e)), h.cell, h.frozen⟩
theorem Scr.below {D : Nat → Prop} {B : Nat} {W W' : World} (h : Scr D W W') (hD : ∀ k, D k → B ≤ k) : Below B W W' :=
  ⟨h.os, h.tape, h.output, by rw [h.size]; exact Nat.le_refl _, fun k hk => h.block k (fun e => by have := hD k e; omega)⟩
theorem Sl.scr {D : Nat → Prop} {W W' : World} (h : Scr D W W') {a : Option Addr} {n c : Nat} {xs : List Value} (hs : Sl W a n c xs) (ha : ∀ x, a = some x → ¬ D x.block) : Sl W' a n c xs := by
  obtain ⟨h1, h2, h3, h4, h5⟩ := hs
  refine ⟨h1, h2, h3, h4, fun hn => ?_⟩
  obtain ⟨g, off, hg, hlt, hc⟩ := h5 hn
  refine ⟨g, off, hg, by rw [h.size]; exact hlt, fun j v hv => ?_⟩
  have h6 := hc j v hv
  have h7 := h.block g (ha _ hg)
  unfold World.cell? at h6 ⊢
  rw [show W'.heap[g]? = W.heap[g]? from h7]; exact h6
theorem Ints.scr {D : Nat → Prop} {k : IntKind} {W W' : World} {a : Option Addr} {n c : Nat} {zs : List Int} (hs : Ints k W a n c zs) (h : Scr D W W') (ha : ∀ x, a = some x → ¬ D x.block) : Ints k W' a n c zs := Sl.scr h hs ha

theorem cur_scr {D : Nat → Prop} {W W' : World} (h : Scr D W W') {bc : Nat} {a : Option Addr} {n c at' : Nat} {zs : List Int} (hc : Cur W bc a n c at' zs) (hd : ¬ D bc) (ha : ∀ x, a = some x → ¬ D x.block) : Cur W' bc a n c at' zs :=
  ⟨(h.block bc hd).trans hc.cells, hc.ints.scr h ha, hc.byt, hc.le, hc.lt, hc.ne⟩

/-- a slice of the call's own: its cells may be written -/
theorem own_frozen {w : World} {base : Nat} {e : TypeId} {a : Option Addr} {n c : Nat} {xs : List Value} (h : w.ownsRow base e 1 (.slice a n c) n xs) : ∀ x, a = some x → base ≤ x.block ∧ ∀ o, w.frozen? ⟨x.block, o, none⟩ = false := by
  intro x hx
  subst hx
  rcases h.2 with ⟨h1, _⟩ | ⟨g, cap, cur, h1, hg, h2, _⟩
  · cases h1
  · cases h1
    exact ⟨hg, fun o => by simp [World.frozen?, h2]⟩

end Go.Proofs.Ytoldkoeijgnflaa

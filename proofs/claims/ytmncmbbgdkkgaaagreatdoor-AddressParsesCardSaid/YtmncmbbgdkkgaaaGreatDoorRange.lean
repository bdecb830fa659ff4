/- A law for a range over a function whose iterator is itself a loop over an iterator: no statement stands here. -/
import Derived.RangeFuncNested
import Derived.RangeFuncBound
import Derived.RangeFuncCalls
import Derived.RangeFuncLeaves
import Derived.RangeFuncBox
import Derived.Shelf.Abstract
import Derived.Shelf.RegionOpen
import Derived.OwnWalkIn
import Derived.TacticsInMore
import Derived.LoopNIn
import Derived.LoopIn
import Derived.Test.YtmncmbbgdkkgaaaGreatDoorBase
namespace Go.Proofs.YtmncmbbgdkkgaaaGreatDoor
open Go.RowKit Go.Shelf

/-- the blocks that an iterator leans on: all that are no cells, and the boxes of the types T -/
def stays (T : List TypeId) : Obj → Bool
  | .cells _ t _ => T.contains t
  | _ => true
theorem stays_of_not_cells {T : List TypeId} {o : Obj} (h : o.isCells = false) : stays T o = true := by
  cases o <;> first | rfl | cases h

/-- whatever an iterator leans on and lies at or beyond B lies as it lay -/
structure KF (T : List TypeId) (B : Nat) (W W' : World) : Prop where
  size : W.heap.size ≤ W'.heap.size
  same : ∀ (k : Nat) (o : Obj), B ≤ k → W.heap[k]? = some o → stays T o = true → W'.heap[k]? = some o
theorem KF.refl (T : List TypeId) (B : Nat) (W : World) : KF T B W W := ⟨Nat.le_refl _, fun _ _ _ h _ => h⟩
theorem KF.trans {T : List TypeId} {B : Nat} {X Y Z : World} (h : KF T B X Y) (k : KF T B Y Z) : KF T B X Z :=
  ⟨Nat.le_trans h.size k.size, fun i o hB hi ho => k.same i o hB (h.same i o hB hi ho) ho⟩
theorem KF.mono {T : List TypeId} {B B' : Nat} {W W' : World} (h : KF T B W W') (hb : B ≤ B') : KF T B' W W' := ⟨h.size, fun k o hk => h.same k o (by omega)⟩
theorem KF.grown {T : List TypeId} {B : Nat} {W W' : World} {row : Option Nat} (hg : W.grownBy W' row) (hrow : ∀ r, row = some r → r < B ∨ ∃ o : Obj, W.heap[r]? = some o ∧ stays T o = false) : KF T B W W' :=
  ⟨hg.size, fun k o hB hk ho => by
    refine (hg.block k (Array.getElem?_eq_some_iff.1 hk).1 (fun e => ?_)).trans hk
    rcases hrow k e.symm with h | ⟨o', h, h'⟩
    · omega
    · rw [hk] at h; cases h; rw [ho] at h'; cases h'⟩
theorem KF.alloc {T : List TypeId} {B : Nat} (W : World) (o : Obj) : KF T B W (W.alloc o) := KF.grown (World.grownBy_alloc W o none) (fun r e => by cases e)
theorem KF.setCell {T : List TypeId} {B : Nat} (W : World) (b : Nat) (v : Value) (h : b < B) : KF T B W (W.setCell ⟨b, 0, none⟩ v) := KF.grown (grownBy_setCell' W b v) (fun r e => by cases e; exact .inl h)
theorem KF.drewN {T : List TypeId} {B : Nat} (W : World) (q : Nat) : KF T B W (W.drewN q) := ⟨Nat.le_refl _, fun _ _ _ h _ => h⟩

/-- the blocks of A lie as they lay -/
structure SameA (A : Nat → Prop) (W W' : World) : Prop where
  size : W.heap.size ≤ W'.heap.size
  same : ∀ k, A k → k < W.heap.size → W'.heap[k]? = W.heap[k]?
theorem SameA.refl (A : Nat → Prop) (W : World) : SameA A W W := ⟨Nat.le_refl _, fun _ _ _ => rfl⟩
theorem SameA.trans {A : Nat → Prop} {X Y Z : World} (h : SameA A X Y) (k : SameA A Y Z) : SameA A X Z :=
  ⟨Nat.le_trans h.size k.size, fun i hA hi => (k.same i hA (Nat.lt_of_lt_of_le hi h.size)).trans (h.same i hA hi)⟩
theorem SameA.grown {A : Nat → Prop} {W W' : World} {row : Option Nat} (hg : W.grownBy W' row) (hr : ∀ r, row = some r → ¬ A r) : SameA A W W' :=
  ⟨hg.size, fun k hA hk => hg.block k hk (fun e => hr k e.symm hA)⟩
theorem SameA.of_below {A : Nat → Prop} {n : Nat} {W W' : World} (h : Below n W W') (hA : ∀ k, A k → k < n) : SameA A W W' := ⟨h.size, fun k hk _ => h.block k (hA k hk)⟩
theorem SameA.cell {A : Nat → Prop} {W W' : World} (h : SameA A W W') {p : Addr} {v : Value} (hA : A p.block) (hc : W.cell? p = some v) : W'.cell? p = some v := by
  have := h.same p.block hA (lt_of_cell hc)
  unfold World.cell? at hc ⊢
  rw [this]; exact hc

theorem yieldAt_wide {m : Nat} (m' : Nat) {P : Program} {l l' : Nat} {args : Array Value} {W : World} {R : Ending → World → Prop} (h : YieldAt Fence.wide m P l args W R) : YieldAt (Fence.wide.inRound l') m' P l args W R := by
  obtain ⟨fn, tmps, assign, body, hy, hR⟩ := h
  exact ⟨fn, tmps, assign, body, hy, hR.1, fun c cs _ => hR.2 c cs (room_wide _)⟩

/-- AN ITERATOR THAT HANDS ITS LOOP N TUPLES, encs 0, encs 1, ..: for every loop body that keeps the blocks of A where it goes on -/
def SeqN (T : List TypeId) (n : Nat) (P : Program) (g : Nat) (lb : Array Value) (encs : Nat → Array Value) (A : Nat → Prop) (N : Nat) (w : World) : Prop :=
  ∀ (l : Nat) (J Jx : Nat → World → Prop) (W : World), Below w.heap.size w W → l < W.heap.size → OwnFrom (l + 1) J → OwnFrom (l + 1) Jx →
    (∀ k W1, k < N → J k W1 → YieldAt Fence.wide (n - 1) P l (encs k) W1 fun e W' =>
      KF T (l + 1) W1 W' ∧ ((e = .returned (.bool true) ∧ J (k + 1) W' ∧ SameA A W1 W') ∨ (e = .returned (.bool false) ∧ Jx k W'))) →
    J 0 W →
    CallsIn Fence.wide n P g (#[.func (.yield l) #[] #[]] ++ lb) W fun e W' => (∃ v, e = .returned v) ∧ (J N W' ∨ ∃ k, k < N ∧ Jx k W')

/-- how the body of a round may be left -/
def postN (T : List TypeId) (B : Nat) (A : Nat → Prop) (I : Nat → World → Prop) (Ix : Code → Nat → World → Prop) (k : Nat) (W : World) : Exit → Act → World → Prop
  | .normal, _, W' => KF T B W W' ∧ SameA A W W' ∧ I (k + 1) W'
  | .ret, _, W' => KF T B W W' ∧ Ix .ret k W'
  | .exit id, _, W' => KF T B W W' ∧ Ix (.exit id) k W'
  | .goto t, _, W' => KF T B W W' ∧ Ix (.goto t) k W'
  | .panic _, _, _ => False
  | .outgrown, _, _ => False

theorem wp_rangeN {T : List TypeId} {n : Nat} {P : Program} {g : Operand} {ps : Array Tmp} {assign body : Code} {Q : Exit → Act → World → Prop} {a : Act} {w : World}
    {gf : Nat} {lb : Array Value} (hg : a.eval g = .func (.func gf) #[] lb) (eg : ∀ args w, (callFunc gf args).run P w = .ok (.enter gf args) w)
    {encs : Nat → Array Value} {A : Nat → Prop} {N : Nat} {w0 : World} (hseq : SeqN T (n - 1) P gf lb encs A N w0) (hb0 : Below w0.heap.size w0 w) (hA : ∀ k, A k → k < w.heap.size) (hps : ∀ k, (encs k).size = ps.size)
    (I : Nat → World → Prop) (Ix : Code → Nat → World → Prop) (hI : OwnFrom w.heap.size I) (hIx : ∀ c, OwnFrom w.heap.size (Ix c)) (h0 : I 0 w) (a₁ : Nat → Act)
    (hassign : ∀ (l : Nat) (k : Nat) (W : World) (K : Act → World → Prop), K (a₁ k) W →
      assign.wpIn (Fence.wide.inRound l) (n - 1 - 1) P (Exit.then K (fun _ _ _ => False)) { tmps := (ps.zip (encs k)).foldl (fun t (p, v) => t.setIfInBounds p v) a.tmps, defers := [] } W)
    (hbody : ∀ (l : Nat) (k : Nat) (W : World), w.heap.size < l → l < W.heap.size → k < N → I k W → body.wpIn (Fence.wide.inRound l) (n - 1 - 1) P (postN T w.heap.size A I Ix k W) (a₁ k) W)
    (hdone : ∀ (D : Nat) (W : World), w.heap.size ≤ D → I N W → W.heap[D]? = some (.deferred (some [])) → Q .normal { a with defers := { target := .collected D, args := #[] } :: a.defers } W)
    (hstop : ∀ (D : Nat) (c : Code) (k : Nat) (W : World), w.heap.size ≤ D → k < N → Ix c k W → W.heap[D]? = some (.deferred (some [])) → c.wpIn Fence.wide n P Q { a with defers := { target := .collected D, args := #[] } :: a.defers } W) :
    (Code.rangeFunc g ps assign body).wpIn Fence.wide n P Q a w := by
  refine wpIn_rangeFunc ?_
  intro fn hfn
  obtain ⟨rec, hrec⟩ : ∃ rec : LoopState → Option Code → Loop, rec = fun st pe => { state := st, pending := pe, fn, tmps := a.tmps, params := ps, assign, body, defers := w.heap.size } := ⟨_, rfl⟩
  obtain ⟨W1, hW1⟩ : ∃ W1, (w.alloc (.deferred (some []))).alloc (.loop (rec .ready none)) = W1 := ⟨_, rfl⟩
  have hs1 : W1.heap.size = w.heap.size + 1 + 1 := by rw [← hW1]; simp
  have hL1 : W1.heap[w.heap.size + 1]? = some (.loop (rec .ready none)) := by
    rw [← hW1]; have := World.alloc_heap_new (w.alloc (.deferred (some []))) (.loop (rec .ready none)); rwa [World.size_alloc] at this
  have hK1 : W1.heap[w.heap.size]? = some (.deferred (some [])) := by
    rw [← hW1]; exact (Below.heap_alloc _ _ _ (by simp)).trans (World.alloc_heap_new w _)
  have hI1 : I 0 W1 := by rw [← hW1]; exact hI.alloc _ (hI.alloc _ h0)
  have hb1 : Below w0.heap.size w0 W1 := by
    rw [← hW1]; exact hb0.trans ((((Below.refl _ w).alloc (Nat.le_refl _) _).alloc (by simp) _).mono hb0.size)
  refine ⟨w.heap.size + 1, [{ target := .collected w.heap.size, args := #[] }], W1, { target := .fn (.func gf) lb, args := #[.func (.yield (w.heap.size + 1)) #[] #[]] }, W1, gf,
    #[.func (.yield (w.heap.size + 1)) #[] #[]] ++ lb, W1, ?_, ?_, fun _ _ => trivial, ?_, fun h => by simp [Fence.wide] at h, ?_⟩
  · rw [← hW1, hrec]; exact run_enterLoop_outer _ _ _ _ _
  · simp only [resolve, hg]
    simp [go_sem]
  · simp [invoke, go_sem, eg]
  · have row1 : ∀ {A B : World} {row : Option Nat}, (∀ r, row = some r → w.heap.size + 1 + 1 ≤ r ∧ ∃ o : Obj, A.heap[r]? = some o ∧ o.isCells = false) → (∀ r, row = some r → w.heap.size ≤ r ∧ ∃ o : Obj, A.heap[r]? = some o ∧ o.isCells = false) :=
      fun hr r e => ⟨by have := (hr r e).1; omega, (hr r e).2⟩
    have keep : ∀ {A B : World} {row : Option Nat} {k : Nat} {o : Obj}, A.grownBy B row → (∀ r, row = some r → w.heap.size + 1 + 1 ≤ r ∧ ∃ o : Obj, A.heap[r]? = some o ∧ o.isCells = false) → A.heap[k]? = some o → k ≤ w.heap.size + 1 → B.heap[k]? = some o :=
      fun hg' hr hk hle => (hg'.block _ (Array.getElem?_eq_some_iff.1 hk).1 (fun e => by have := (hr _ e.symm).1; omega)).trans hk
    refine (hseq (w.heap.size + 1)
      (fun k W => I k W ∧ W.heap[w.heap.size + 1]? = some (.loop (rec .ready none)) ∧ W.heap[w.heap.size]? = some (.deferred (some [])))
      (fun k W => ∃ c, Ix c k W ∧ W.heap[w.heap.size + 1]? = some (.loop (rec .done (some c))) ∧ W.heap[w.heap.size]? = some (.deferred (some [])))
      W1 hb1 (by omega)
      (fun s A B row hs hg' hr => ⟨hI s A B row hs.1 hg' (row1 (B := B) hr), keep hg' hr hs.2.1 (Nat.le_refl _), keep hg' hr hs.2.2 (by omega)⟩)
      (fun s A B row hs hg' hr => by
        obtain ⟨c, hc, hl, hk⟩ := hs
        exact ⟨c, hIx c s A B row hc hg' (row1 (B := B) hr), keep hg' hr hl (Nat.le_refl _), keep hg' hr hk (by omega)⟩)
      ?_ ⟨hI1, hL1, hK1⟩).mono ?_
    · -- one round
      rintro k W hlen ⟨hi, hl, hk⟩
      have hlt : w.heap.size + 1 < W.heap.size := (Array.getElem?_eq_some_iff.1 hl).1
      have hy := run_yield (P := P) (args := encs k) hl (by rw [hrec]; exact hps k)
      rw [hrec] at hy
      refine ⟨fn, _, assign, body, hy, roundIn_of_wpIn hfn (hassign _ k W _ ⟨_, run_beginRound hl (by rw [hrec]), ?_⟩)⟩
      have hl2 : (W.putObj (w.heap.size + 1) (.loop { rec .ready none with state := .busy })).heap[w.heap.size + 1]? = some (.loop { rec .ready none with state := .busy }) := World.putObj_heap_same hlt
      have hk2 : (W.putObj (w.heap.size + 1) (.loop { rec .ready none with state := .busy })).heap[w.heap.size]? = some (.deferred (some [])) := (World.putObj_heap_other (by omega)).trans hk
      have hgp : ∀ (X : World) (o' : Obj), KF T (w.heap.size + 1 + 1) X (X.putObj (w.heap.size + 1) o') := fun X o' => KF.grown (grownBy_putObj' X _ o') (fun r e => by cases e; exact .inl (by omega))
      have hbp : ∀ (X : World) (o' : Obj), SameA A X (X.putObj (w.heap.size + 1) o') := fun X o' => SameA.grown (grownBy_putObj' X _ o') (fun r e hr => by cases e; have := hA _ hr; omega)
      refine wpIn_mono (hbody _ k _ (by omega) (by rw [World.putObj_size]; exact hlt) hlen (hI.putObj _ hi (by omega) hl rfl)) ?_
      have fin : ∀ (jump : Option Code) (W3 : World), KF T w.heap.size (W.putObj (w.heap.size + 1) (.loop { rec .ready none with state := .busy })) W3 →
          (Instr.endRound (w.heap.size + 1) jump).run P W3 = .ok (.bool jump.isNone) (W3.putObj (w.heap.size + 1) (.loop (rec (if jump.isNone then .ready else .done) jump))) ∧
          W3.heap[w.heap.size + 1]? = some (.loop { rec .ready none with state := .busy }) ∧
          (W3.putObj (w.heap.size + 1) (.loop (rec (if jump.isNone then .ready else .done) jump))).heap[w.heap.size + 1]? = some (.loop (rec (if jump.isNone then .ready else .done) jump)) ∧
          (W3.putObj (w.heap.size + 1) (.loop (rec (if jump.isNone then .ready else .done) jump))).heap[w.heap.size]? = some (.deferred (some [])) ∧
          KF T (w.heap.size + 1 + 1) W (W3.putObj (w.heap.size + 1) (.loop (rec (if jump.isNone then .ready else .done) jump))) := fun jump W3 hk3 => by
        have hl3 := hk3.same _ _ (by omega) hl2 rfl
        have := run_endRound (P := P) jump hl3
        rw [hrec] at this ⊢
        exact ⟨this, by rw [hrec] at hl3; exact hl3, World.putObj_heap_same (Array.getElem?_eq_some_iff.1 hl3).1, (World.putObj_heap_other (by omega)).trans (hk3.same _ _ (Nat.le_refl _) hk2 rfl),
          ((hgp W _).trans (by rw [hrec] at hk3; exact hk3.mono (by omega))).trans (hgp W3 _)⟩
      rintro e a3 W3 hp
      cases e with
      | normal =>
        obtain ⟨hk3, hkp3, hi3⟩ := hp
        obtain ⟨hr, hl3, hl4, hk4, hkf⟩ := fin none W3 hk3
        exact ⟨_, _, hr, hkf, .inl ⟨rfl, ⟨hI.putObj _ hi3 (by omega) hl3 rfl, hl4, hk4⟩, ((hbp W _).trans hkp3).trans (hbp W3 _)⟩⟩
      | ret =>
        obtain ⟨hk3, hi3⟩ := hp
        obtain ⟨hr, hl3, hl4, hk4, hkf⟩ := fin (some .ret) W3 hk3
        exact ⟨_, _, hr, hkf, .inr ⟨rfl, .ret, (hIx _).putObj _ hi3 (by omega) hl3 rfl, hl4, hk4⟩⟩
      | exit id =>
        obtain ⟨hk3, hi3⟩ := hp
        obtain ⟨hr, hl3, hl4, hk4, hkf⟩ := fin (some (.exit id)) W3 hk3
        exact ⟨_, _, hr, hkf, .inr ⟨rfl, .exit id, (hIx _).putObj _ hi3 (by omega) hl3 rfl, hl4, hk4⟩⟩
      | goto t =>
        obtain ⟨hk3, hi3⟩ := hp
        obtain ⟨hr, hl3, hl4, hk4, hkf⟩ := fin (some (.goto t)) W3 hk3
        exact ⟨_, _, hr, hkf, .inr ⟨rfl, .goto t, (hIx _).putObj _ hi3 (by omega) hl3 rfl, hl4, hk4⟩⟩
      | panic ch => exact hp.elim
      | outgrown => exact hp.elim
    · -- behind the iterator
      rintro e W2 ⟨⟨v, rfl⟩, (⟨hi, hl, hk⟩ | ⟨k, hk', c, hi, hl, hk⟩)⟩
      · exact ⟨none, _, by have := run_endLoop (P := P) hl (by rw [hrec]; simp); rw [hrec] at this; exact this, hdone _ _ (Nat.le_refl _) (hI.putObj _ hi (by omega) hl rfl) ((World.putObj_heap_other (by omega)).trans hk)⟩
      · exact ⟨some c, _, by have := run_endLoop (P := P) hl (by rw [hrec]; simp); rw [hrec] at this; exact this, hstop _ c k _ (Nat.le_refl _) hk' ((hIx c).putObj _ hi (by omega) hl rfl) ((World.putObj_heap_other (by omega)).trans hk)⟩

end Go.Proofs.YtmncmbbgdkkgaaaGreatDoor

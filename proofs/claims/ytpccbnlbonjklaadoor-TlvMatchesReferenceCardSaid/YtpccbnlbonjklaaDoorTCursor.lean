/- wire.Cursor: New, Left, At, Take. -/
import Derived.Test.YtpccbnlbonjklaaDoorTWire2
import Derived.StillTailTactics
import Derived.Laws.Cover3
namespace Go.Proofs.YtpccbnlbonjklaaDoor.Wr
open Go.RowKit

theorem info_u8 : (Tryd.prog.info? 5).map (fun i => (i.zero, i.size, i.bytes)) = some (some (.int .u8 0), 1, 1) := by kernel_rfl
theorem ints_oneCell (k : IntKind) (zs : List Int) : ∀ u ∈ zs.map (Value.int k), u.oneCell' = true := by
  intro u hu
  obtain ⟨z, _, rfl⟩ := List.mem_map.1 hu
  rfl

theorem eql_nil (a : Option Addr) (l c : Nat) (w : World) : (binOp .eql 22 (.slice a l c) (.slice none 0 0)).run Tryd.prog w = .ok (.bool a.isNone) w := by
  simp only [binOp]
  simp [run_equal_slice_nil w 22 5 a l c Tryd.underlying22]

/-- slices.Clone: a row of the call's own with the same bytes -/
theorem clone_any (a : Option Addr) (n c : Nat) (zs : List Int) (w : World) (hx : Ints .u8 w a n c zs) (hn : n ≤ 140737488351232) :
    Calls Tryd.prog 46 #[.slice a n c] w fun e w' => ∃ v, e = .returned v ∧ w'.ownsRow w.heap.size 5 1 v n (zs.map (Value.int .u8)) ∧ Below w.heap.size w w' := by
  obtain ⟨i0, hi, hz0, hz1, hz2⟩ := info_parts info_u8
  have hc1 := hx.cap
  cases a with
  | none =>
    obtain ⟨h1, h2, h3, h4, h5⟩ := hx
    obtain rfl := h4 rfl
    obtain rfl : n = 0 := by omega
    obtain rfl : zs = [] := by simpa using h1
    clear h1 h2 h3 h4 h5 hc1
    have hq := eql_nil none 0 0
    go_enter Tryd.func46, Tryd.ntmps46
    go_wp2
    go_ret
    exact ⟨_, rfl, World.ownsRow_nil _ _ _ _, Below.refl _ _⟩
  | some ad =>
    have hown0 : (w.alloc (.cells #[] 5)).ownsRow w.heap.size 5 1 (.slice (some ⟨w.heap.size, 0, none⟩) 0 0) 0 [] := World.ownsRow_made w #[] 0 (Nat.le_refl _) (by decide) rfl
    have HO0 := Lib.hid hown0
    have HX0 := Lib.hid (hx.below ((Below.refl _ _).alloc (Nat.le_refl _) (.cells #[] 5)))
    clear hx hown0
    have hq := eql_nil (some ad) n c
    go_enter Tryd.func46, Tryd.ntmps46
    go_wp2_with (at_builtin; refine append_own_any _ rfl _ _ 22 rfl w.heap.size 5 i0 (.int .u8 0) 1 Tryd.underlying22 hi hz0 hz1 hz2 rfl _ _ _ rfl HO0.out _ _ _ (zs.map (Value.int .u8)) rfl HX0.out (ints_oneCell _ _) (by unfold maxLen; omega) (by omega) (by simp) ?_; intro v w1 HO1 hgrow)
    have HO : Hid (w1.ownsRow w.heap.size 5 1 v n (zs.map (Value.int .u8))) := by simpa using HO1
    have HB1 := Lib.hid (((Below.refl _ w).alloc (Nat.le_refl _) (.cells #[] 5)).grown hgrow.out (by simp) (fun k' hk' => (HO0.out.lt k' hk').1))
    clear HO1 hgrow HO0 HX0
    obtain ⟨a', c', hv', _⟩ := Sl.own HO.out
    subst hv'
    go_wp2
    go_ret
    exact ⟨_, rfl, HO.out, HB1.out⟩

theorem own_lt {w : World} {base : Nat} {e : TypeId} {a : Option Addr} {n c : Nat} {xs : List Value} (h : w.ownsRow base e 1 (.slice a n c) n xs) : ∀ x, a = some x → x.block < w.heap.size := by
  intro x hx
  subst hx
  rcases h.2 with ⟨h1, _⟩ | ⟨g, cap, cur, h1, _, h2, _⟩
  · cases h1
  · cases h1
    exact (Array.getElem?_eq_some_iff.1 h2).1

theorem own_ge {w : World} {base : Nat} {e : TypeId} {a : Option Addr} {n c : Nat} {xs : List Value} (h : w.ownsRow base e 1 (.slice a n c) n xs) : ∀ x, a = some x → base ≤ x.block := by
  intro x hx
  subst hx
  rcases h.2 with ⟨h1, _⟩ | ⟨g, cap, cur, h1, hg, h2, _⟩
  · cases h1
  · cases h1; exact hg

/-- THE CURSOR IN BLOCK bc: its bytes and where it stands -/
structure Cur (w : World) (bc : Nat) (a : Option Addr) (n c at' : Nat) (zs : List Int) : Prop where
  cells : w.heap[bc]? = some (.cells #[.slice a n c, .int .i64 at'] 88 (0, 0))
  ints : Ints .u8 w a n c zs
  byt : Byt zs
  le : at' ≤ n
  lt : n ≤ 1099511627776
  ne : ∀ x, a = some x → x.block < bc
theorem Cur.b {w : World} {bc : Nat} {a : Option Addr} {n c at' : Nat} {zs : List Int} (h : Cur w bc a n c at' zs) : w.cell? ⟨bc, 0, none⟩ = some (.slice a n c) := by simp [World.cell?, h.cells]
theorem Cur.at {w : World} {bc : Nat} {a : Option Addr} {n c at' : Nat} {zs : List Int} (h : Cur w bc a n c at' zs) : w.cell? ⟨bc, 1, none⟩ = some (.int .i64 at') := by simp [World.cell?, h.cells]
theorem Cur.frozen {w : World} {bc : Nat} {a : Option Addr} {n c at' : Nat} {zs : List Int} (h : Cur w bc a n c at' zs) : w.frozen? ⟨bc, 1, none⟩ = false := by simp [World.frozen?, h.cells]
theorem Cur.size {w : World} {bc : Nat} {a : Option Addr} {n c at' : Nat} {zs : List Int} (h : Cur w bc a n c at' zs) : bc < w.heap.size := (Array.getElem?_eq_some_iff.1 h.cells).1
theorem Cur.below {w w' : World} {bc : Nat} {a : Option Addr} {n c at' : Nat} {zs : List Int} (h : Cur w bc a n c at' zs) (hb : Below w.heap.size w w') : Cur w' bc a n c at' zs :=
  ⟨(hb.block bc h.size).trans h.cells, h.ints.below hb, h.byt, h.le, h.lt, h.ne⟩

theorem left_any (bc : Nat) (a : Option Addr) (n c at' : Nat) (zs : List Int) (w : World) (h : Cur w bc a n c at' zs) :
    Calls Tryd.prog 48 #[.pointer (some ⟨bc, 0, none⟩)] w fun e w' => e = .returned (.int .i64 ((n - at' : Nat) : Int)) ∧ ∃ q, w' = w.drewN q := by
  have h1 := h.b
  have h2 := h.at
  have h3 := h.le
  have h4 := h.lt
  have hs := h.size
  have h5 := h.ints.cap
  clear h
  have he : IntKind.i64.wrap ((n : Int) - (at' : Int)) = ((n - at' : Nat) : Int) := by rw [IntKind.wrap_i64]; omega
  go_enter Tryd.func48, Tryd.ntmps48
  go_wp2
  go_quiet (fail)
  go_wp2
  go_ret
  exact ⟨ret_int (by omega), _, rfl⟩
theorem left_nil (w : World) : Calls Tryd.prog 48 #[.pointer none] w fun e w' => e = .returned (.int .i64 0) ∧ w = w' := by
  go_enter Tryd.func48, Tryd.ntmps48
  go_wp2
  go_ret
  exact ⟨rfl, rfl⟩
/-- wire.New: a cursor over bytes of its own -/
theorem new_any (a : Option Addr) (n c : Nat) (zs : List Int) (w : World) (hx : Ints .u8 w a n c zs) (hb : Byt zs) (hn : n ≤ 1099511627776) :
    Calls Tryd.prog 34 #[.slice a n c] w fun e w' => ∃ bc a' c', e = .returned (.pointer (some ⟨bc, 0, none⟩)) ∧ w.heap.size ≤ bc ∧ Cur w' bc a' n c' 0 zs ∧ Below w.heap.size w w' ∧ ∀ x, a' = some x → w.heap.size ≤ x.block := by
  have HX := Lib.hid hx
  clear hx
  go_enter Tryd.func34, Tryd.ntmps34
  go_wp2_with (go_at_call 46; refine (clone_any _ _ _ zs _ HX.out (by omega)).mono ?_; rintro e w1 ⟨v, rfl, hown, hb1⟩; obtain ⟨a', c', hv, hi⟩ := Ints.own hown; subst hv; have HI := Lib.hid hi; have HB := Lib.hid hb1; have HA := Lib.hid (own_lt hown); have HG := Lib.hid (own_ge hown); clear hi hb1 hown)
  go_ret
  have h1 : Cur (w1.alloc (.cells #[.slice a' n c', .int .i64 0] 88)) w1.heap.size a' n c' 0 zs :=
    ⟨by show (w1.heap.push _)[w1.heap.size]? = _; simp, HI.out.below ((Below.refl _ _).alloc (Nat.le_refl _) _), hb, Nat.zero_le _, hn, HA.out⟩
  exact ⟨_, a', c', rfl, HB.out.size, h1, HB.out.alloc HB.out.size _, HG.out⟩

/-- blocks below B other than b lie as they lay -/
structure But (b : Nat) (w w' : World) : Prop where
  os : w'.os = w.os
  tape : w'.tape = w.tape
  output : w'.output = w.output
  size : w.heap.size ≤ w'.heap.size
  block : ∀ k, k < w.heap.size → k ≠ b → w'.heap[k]? = w.heap[k]?
theorem But.of_below {b : Nat} {w w' : World} (h : Below w.heap.size w w') : But b w w' := ⟨h.os, h.tape, h.output, h.size, fun k hk _ => h.block k hk⟩
theorem But.trans {b : Nat} {u v w : World} (h : But b u v) (k : But b v w) : But b u w :=
  ⟨k.os.trans h.os, k.tape.trans h.tape, k.output.trans h.output, Nat.le_trans h.size k.size, fun i hi hb => (k.block i (Nat.lt_of_lt_of_le hi h.size) hb).trans (h.block i hi hb)⟩
theorem But.set (b o : Nat) (w : World) (v : Value) : But b w (w.setCell ⟨b, o, none⟩ v) :=
  ⟨rfl, rfl, rfl, by simp [World.setCell], fun k _ hk => Below.heap_setCell _ _ _ _ hk⟩
theorem But.below {b B : Nat} {w w' : World} (h : But b w w') (hB : B ≤ b) (hs : B ≤ w.heap.size) : Below B w w' :=
  ⟨h.os, h.tape, h.output, h.size, fun k hk => h.block k (by omega) (by omega)⟩
theorem But.drewN {b : Nat} (w : World) (q : Nat) : But b w (w.drewN q) := ⟨rfl, rfl, rfl, Nat.le_refl _, fun _ _ _ => rfl⟩

theorem _root_.Go.Proofs.YtpccbnlbonjklaaDoor.Sl.but {b : Nat} {w w' : World} {a : Option Addr} {n c : Nat} {xs : List Value} (h : Sl w a n c xs) (hb : But b w w') (ha : ∀ x, a = some x → x.block ≠ b) : Sl w' a n c xs := by
  obtain ⟨h1, h2, h3, h4, h5⟩ := h
  refine ⟨h1, h2, h3, h4, fun hn => ?_⟩
  obtain ⟨g, off, hg, hlt, hc⟩ := h5 hn
  refine ⟨g, off, hg, Nat.lt_of_lt_of_le hlt hb.size, fun j v hv => ?_⟩
  have := hb.block g hlt (ha _ hg)
  have h6 := hc j v hv
  unfold World.cell? at h6 ⊢
  rw [show w'.heap[g]? = w.heap[g]? from this]; exact h6
theorem _root_.Go.Proofs.YtpccbnlbonjklaaDoor.Ints.but {b : Nat} {k : IntKind} {w w' : World} {a : Option Addr} {n c : Nat} {zs : List Int} (h : Ints k w a n c zs) (hb : But b w w') (ha : ∀ x, a = some x → x.block ≠ b) : Ints k w' a n c zs := Sl.but h hb ha
theorem Cur.moved {w : World} {bc : Nat} {a : Option Addr} {n c at' : Nat} {zs : List Int} (h : Cur w bc a n c at' zs) (q : Nat) {k : Nat} (hk : at' + k ≤ n) : Cur ((w.drewN q).setCell ⟨bc, 1, none⟩ (.int .i64 ((at' : Int) + (k : Int)))) bc a n c (at' + k) zs := by
  refine ⟨?_, h.ints.but ((But.drewN w q).trans (But.set bc 1 _ _)) (fun x hx => by have := h.ne x hx; omega), h.byt, hk, h.lt, h.ne⟩
  obtain ⟨hlt, hk'⟩ := Array.getElem?_eq_some_iff.1 h.cells
  show (w.heap.modify bc _)[bc]? = _
  rw [Array.getElem?_eq_getElem (by rw [Array.size_modify]; exact hlt), Array.getElem_modify_self, hk']
  simp

set_option maxHeartbeats 1000000 in
theorem take_yes (bc : Nat) (a : Option Addr) (n c at' k : Nat) (zs : List Int) (w : World) (h : Cur w bc a n c at' zs) (hk : at' + k ≤ n) :
    Calls Tryd.prog 36 #[.pointer (some ⟨bc, 0, none⟩), .int .i64 k] w fun e w' => ∃ a' c', e = .returned (.tuple #[.slice a' k c', .bool true]) ∧
      w'.ownsRow w.heap.size 5 1 (.slice a' k c') k (((zs.drop at').take k).map (Value.int .u8)) ∧ Cur w' bc a n c (at' + k) zs ∧ But bc w w' := by
  have HC := Lib.hid h
  have h1 := h.b
  have h2 := h.at
  have h3 := h.le
  have h4 := h.lt
  have h6 := h.frozen
  have hs := h.size
  have h5 := h.ints.cap
  clear h
  have hd : decide (((n - at' : Nat) : Int) < (k : Int)) = false := by simp; omega
  go_enter Tryd.func36, Tryd.ntmps36
  go_wp2_with (go_at_call 48; refine (left_any _ _ _ _ _ _ _ HC.out).mono ?_; rintro e w1 ⟨rfl, q, rfl⟩)
  have e1 : IntKind.i64.wrap ((at' : Int) + (k : Int)) = (at' : Int) + (k : Int) := by rw [IntKind.wrap_i64]; omega
  have e2 : ((at' : Int) + (k : Int)).toNat = at' + k := by omega
  have e3 : (0 : Int) ≤ (at' : Int) + (k : Int) := by omega
  have e4 : (at' : Int) ≤ (at' : Int) + (k : Int) := by omega
  have e5 : (at' : Int) + (k : Int) ≤ (c : Int) := by omega
  have e6 : (at' : Int) + (k : Int) ≤ (n : Int) := by omega
  go_quiet (fail)
  have hsub : Ints .u8 w (if k = 0 then a else Option.map (fun x => x.add at') a) k k ((zs.drop at').take k) := by
    have hl := HC.out.ints.len
    by_cases h0 : k = 0
    · subst h0
      rw [if_pos rfl]
      exact ⟨by simp, Nat.le_refl _, by omega, fun _ => rfl, fun h => absurd h (by omega)⟩
    · rw [if_neg h0]
      have := HC.out.ints.sub (lo := at') (hi := at' + k) (by omega) hk
      rw [show at' + k - at' = k by omega, List.drop_take, show at' + k - at' = k by omega] at this
      obtain ⟨g1, g2, g3, g4, g5⟩ := this
      exact ⟨g1, Nat.le_refl _, by omega, fun h => by have := g4 h; omega, g5⟩
  have hne : ∀ x, (if k = 0 then a else Option.map (fun x => x.add at') a) = some x → x.block ≠ bc := by
    intro x hx
    have hb : x.block < bc := by
      split at hx
      · exact HC.out.ne x hx
      · cases ha : a with
        | none => rw [ha] at hx; cases hx
        | some y =>
          rw [ha] at hx
          have := HC.out.ne y ha
          simp only [Option.map_some, Option.some.injEq] at hx
          subst hx
          unfold Addr.add
          split <;> exact this
    omega
  obtain ⟨a2, ha2⟩ : ∃ a2, (if k = 0 then a else Option.map (fun x => x.add at') a) = a2 := ⟨_, rfl⟩
  rw [ha2] at hsub hne ⊢
  have hin : Ints .u8 ((w.drewN (q + nq)).setCell ⟨bc, 1, none⟩ (.int .i64 ((at' : Int) + (k : Int)))) a2 k k ((zs.drop at').take k) :=
    hsub.but ((But.drewN w (q + nq)).trans (But.set bc 1 _ _)) hne
  have HI := Lib.hid hin
  have hsz : ((w.drewN (q + nq)).setCell ⟨bc, 1, none⟩ (.int .i64 ((at' : Int) + (k : Int)))).heap.size = w.heap.size := by simp [World.setCell, World.drewN]
  have HS := Lib.hid hsz
  clear ha2 hsub hne hin hsz
  go_wp2_with (go_at_call 46; refine (clone_any _ _ _ _ _ HI.out (by omega)).mono ?_; rintro e w3 ⟨v, rfl, hown, hb1⟩; obtain ⟨a', c', hv, hi⟩ := Ints.own hown; subst hv; have HO := Lib.hid hown; have HB := Lib.hid hb1; clear hi hb1 hown)
  go_ret2
  have hm := (HC.out.moved (q + nq) hk).below (w' := w3) HB.out
  have ho := HO.out
  rw [HS.out] at ho
  exact ⟨a', c', rfl, ho, hm, ((But.drewN w (q + nq)).trans (But.set bc 1 _ _)).trans (But.of_below HB.out)⟩

theorem take_no (bc : Nat) (a : Option Addr) (n c at' : Nat) (k : Int) (zs : List Int) (w : World) (h : Cur w bc a n c at' zs) (hk : k < 0 ∨ ((n - at' : Nat) : Int) < k) :
    Calls Tryd.prog 36 #[.pointer (some ⟨bc, 0, none⟩), .int .i64 k] w fun e w' => e = .returned (.tuple #[.slice none 0 0, .bool false]) ∧ ∃ q, w' = w.drewN q := by
  have HC := Lib.hid h
  clear h
  rcases Int.lt_or_le k 0 with h0 | h0
  · clear hk
    go_enter Tryd.func36, Tryd.ntmps36
    go_wp2
    go_ret2
    exact ⟨rfl, 0, rfl⟩
  · have hk : ((n - at' : Nat) : Int) < k := by omega
    go_enter Tryd.func36, Tryd.ntmps36
    go_wp2_with (go_at_call 48; refine (left_any _ _ _ _ _ _ _ HC.out).mono ?_; rintro e w1 ⟨rfl, q, rfl⟩)
    go_ret2
    exact ⟨rfl, q, rfl⟩

end Go.Proofs.YtpccbnlbonjklaaDoor.Wr

/- address.Parse's words: the reading of a word, the bytes behind it. -/
import Derived.Test.YtmncmbbgdkkgaaaGreatDoorAd5
import Derived.Deep.RegionLaw
import Derived.Deep.AppendLies
namespace Go.Proofs.YtmncmbbgdkkgaaaGreatDoor
set_option maxRecDepth 100000
set_option linter.unusedVariables false
open Go.RowKit

def IsErr (v : Value) : Prop := v = .nilIface ∨ ∃ te pe, v = .iface te pe
/-- what the library's variables hold -/
structure Glob (w : World) : Prop where
  tab : Tab10 w
  len : ∃ m, w.cell? ⟨0, 0, none⟩ = some (.int .i64 m)
  syn : ∃ v, w.cell? ⟨1, 0, none⟩ = some v ∧ IsErr v
  ran : ∃ v, w.cell? ⟨2, 0, none⟩ = some v ∧ IsErr v
  tz : w.cell? ⟨7, 15, none⟩ = some (.int .u8 4)
theorem cell_below {w w' : World} {p : Addr} {v : Value} (hb : Below w.heap.size w w') (h : w.cell? p = some v) : w'.cell? p = some v := (hb.cell (lt_of_cell h)).trans h
theorem Glob.below {w w' : World} (h : Glob w) (hb : Below w.heap.size w w') : Glob w' := by
  obtain ⟨h1, ⟨m, h2⟩, ⟨v, h3, h4⟩, ⟨u, h5, h6⟩, h7⟩ := h
  exact ⟨h1.below hb, ⟨m, cell_below hb h2⟩, ⟨v, cell_below hb h3, h4⟩, ⟨u, cell_below hb h5, h6⟩, cell_below hb h7⟩
/-- what a decimal word reads as: ParseUint's number, whatever its error -/
def v10 (s : ByteArray) : Nat := match Lib.parseUintB 8 s.data.toList with
  | .ok u => u
  | .syntax => 0
  | .range => 255
theorem pu10 (s : ByteArray) (w : World) (hs : s.size ≤ 100000) (hg : Glob w) :
    Calls Tryz.prog 29 #[.string s, .int .i64 10, .int .i64 8] w fun e w' => ∃ ev, e = .returned (.tuple #[.int .u64 (v10 s), ev]) ∧ Below w.heap.size w w' := by
  unfold v10
  cases h : Lib.parseUintB 8 s.data.toList with
  | ok u =>
    refine (Tryz.strconv_ParseUint_10_at8_ok s (by omega) u h w).mono ?_
    rintro e w' ⟨rfl, hw⟩
    refine ⟨_, rfl, ?_⟩
    rcases hw with rfl | rfl
    · exact Below.refl _ _
    · exact ⟨rfl, rfl, rfl, by rw [Lib.bytesWorld_size]; omega, fun k hk => Lib.bytesWorld_at_old w _ s k hk⟩
  | «syntax» =>
    obtain ⟨v, h3, h4⟩ := hg.syn
    refine (Tryz.strconv_ParseUint_10_at8_syntax s (by omega) h v w h3 h4).mono ?_
    rintro e w' ⟨N, rfl, _, _, hb⟩
    exact ⟨_, rfl, hb⟩
  | range =>
    obtain ⟨v, h3, h4⟩ := hg.ran
    refine (Tryz.strconv_ParseUint_10_at8_range s (by omega) h v w h3 h4).mono ?_
    rintro e w' ⟨N, rfl, _, _, hb⟩
    exact ⟨_, rfl, hb⟩
/-- all blocks below N but block b are as they were -/
structure ButN (b N : Nat) (w w' : World) : Prop where
  os : w'.os = w.os
  tape : w'.tape = w.tape
  output : w'.output = w.output
  size : w.heap.size ≤ w'.heap.size
  block : ∀ k, k < N → k ≠ b → w'.heap[k]? = w.heap[k]?
theorem ButN.refl (b N : Nat) (w : World) : ButN b N w w := ⟨rfl, rfl, rfl, Nat.le_refl _, fun _ _ _ => rfl⟩
theorem ButN.of_below {b N : Nat} {w w' : World} (h : Below N w w') : ButN b N w w' := ⟨h.os, h.tape, h.output, h.size, fun k hk _ => h.block k hk⟩
theorem ButN.trans {b N : Nat} {u v w : World} (h : ButN b N u v) (k : ButN b N v w) : ButN b N u w :=
  ⟨k.os.trans h.os, k.tape.trans h.tape, k.output.trans h.output, Nat.le_trans h.size k.size, fun i hi hn => (k.block i hi hn).trans (h.block i hi hn)⟩
theorem ButN.set (b N o : Nat) (w : World) (v : Value) : ButN b N w (w.setCell ⟨b, o, none⟩ v) :=
  ⟨rfl, rfl, rfl, by simp, fun k _ hn => Below.heap_setCell _ _ _ _ hn⟩
theorem ButN.below {b N B : Nat} {w w' : World} (h : ButN b N w w') (hB : B ≤ b) (hN : B ≤ N) : Below B w w' := ⟨h.os, h.tape, h.output, h.size, fun k hk => h.block k (by omega) (by omega)⟩
theorem ButN.cell {b N : Nat} {w w' : World} (h : ButN b N w w') {p : Addr} {v : Value} (hp : p.block < N) (hn : p.block ≠ b) (hc : w.cell? p = some v) : w'.cell? p = some v := by
  rw [← hc]
  simp only [World.cell?]
  rw [h.block _ hp hn]
def bT : TypeId := 23
theorem b_cell {w : World} {b : Nat} {v : Value} (h : w.heap[b]? = some (.cells #[v] bT (0, 0))) : w.cell? ⟨b, 0, none⟩ = some v ∧ w.frozen? ⟨b, 0, none⟩ = false := by
  simp [World.cell?, World.frozen?, h]
theorem b_set {w : World} {b : Nat} {v u : Value} (h : w.heap[b]? = some (.cells #[v] bT (0, 0))) : (w.setCell ⟨b, 0, none⟩ u).heap[b]? = some (.cells #[u] bT (0, 0)) := by
  simp [World.setCell, Array.getElem?_modify, h]
theorem put_one (m : Nat) (hm : m = 1 ∨ m = 2) (b : Nat) (x : Nat) (hx : x ≤ 65535) (w : World) (hi : Ints .u32 w (some ⟨b, 0, none⟩) 1 1 [(x : Int)]) :
    Calls Tryz.prog 30 #[.int .i64 m, .slice (some ⟨b, 0, none⟩) 1 1] w fun e w' => ∃ b' o' c', e = .returned (.slice (some ⟨b', o', none⟩) m c') ∧ (∀ j u, ((be m x).map (Value.int .u8))[j]? = some u → w'.cell? ((⟨b', o', none⟩ : Addr).add j) = some u) ∧ w.heap.size ≤ b' ∧ b' < w'.heap.size ∧ Below w.heap.size w w' := by
  have hz : putZ (m : Int) [(x : Int)] = be m x := by
    unfold putZ putL
    rw [if_pos (by rcases hm with rfl | rfl <;> rfl), Int.toNat_natCast]
    simp
  have hl : (be m x).length = m := be_length (by omega) _
  have h := put_any (m : Int) (some ⟨b, 0, none⟩) 1 1 [(x : Int)] w hi (fun y hy => by simp at hy; subst hy; omega) (by omega)
  rw [hz, hl] at h
  refine h.mono ?_
  rintro e w' ⟨a', c', rfl, ho, hb⟩
  have hor := ho
  obtain ⟨a2, c2, hv, hs⟩ := Sl.own ho
  simp only [Value.slice.injEq, true_and] at hv
  obtain ⟨rfl, rfl⟩ := hv
  obtain ⟨b', o', rfl, hlt, hc⟩ := hs.2.2.2.2 (by omega)
  refine ⟨b', o', c', rfl, fun j u hu => ?_, ?_, hlt, hb⟩
  · rw [Addr.add_lit]; exact hc j u hu
  · exact (hor.lt b' rfl).1
theorem be_oneCell (m : Nat) (x : Int) : ∀ u ∈ (be m x).map (Value.int .u8), u.oneCell' = true := by
  intro u hu
  obtain ⟨z, _, rfl⟩ := List.mem_map.1 hu
  rfl
theorem grow_block {w w' : World} {row : Option Nat} (h : w.grownBy w' row) {N k : Nat} (hN : N ≤ w.heap.size) (hk : k < N) (hr : ∀ r, row = some r → N ≤ r) : w'.heap[k]? = w.heap[k]? :=
  h.block k (by omega) (fun e => by have := hr k e.symm; omega)
theorem grow_below {w w' : World} {row : Option Nat} (h : w.grownBy w' row) {N : Nat} (hN : N ≤ w.heap.size) (hr : ∀ r, row = some r → N ≤ r) : Below N w w' :=
  (Below.refl N w).grown h hN hr
set_option maxHeartbeats 8000000 in
theorem add10 (word : ByteArray) (x : Nat) (hx : x ≤ 65535) (Bb Bs Be N : Nat) (a : Option Addr) (n c : Nat) (zs : List Int) (W : World)
    (hpu : ∀ W, Glob W → Calls Tryz.prog 29 #[.string word, .int .i64 10, .int .i64 8] W fun e W' => ∃ ev, e = .returned (.tuple #[.int .u64 x, ev]) ∧ Below W.heap.size W W')
    (hg : Glob W) (h10 : W.cell? ⟨Be, 0, none⟩ = some (.int .i64 10)) (hsz : W.cell? ⟨Bs, 0, none⟩ = some (.int .i64 1)) (hb : W.heap[Bb]? = some (.cells #[.slice a n c] bT (0, 0)))
    (ho : W.ownsRow N 5 1 (.slice a n c) n (zs.map (Value.int .u8))) (hN : N ≤ W.heap.size) (hbN : Bb < N) (hn : n ≤ 1000000) :
    Calls Tryz.prog 28 #[.string word, .pointer (some ⟨Be, 0, none⟩), .pointer (some ⟨Bs, 0, none⟩), .pointer (some ⟨Bb, 0, none⟩)] W fun e W' => e = .returned (.tuple #[]) ∧
      ∃ a' c', W'.heap[Bb]? = some (.cells #[.slice a' (n + 1) c'] bT (0, 0)) ∧ W'.ownsRow N 5 1 (.slice a' (n + 1) c') (n + 1) ((zs ++ be 1 x).map (Value.int .u8)) ∧ ButN Bb N W W' := by
  obtain ⟨i0, hi, hz0, hz1, hz2⟩ := info_parts info_u8
  have HPU := Lib.hid hpu
  have HG := Lib.hid hg
  have HO := Lib.hid ho
  have HBB := Lib.hid hb
  have hw : IntKind.u32.wrap (x : Int) = (x : Int) := by rw [IntKind.wrap_u32]; omega
  clear hpu hg ho hb
  go_enter Tryz.func28, Tryz.ntmps28
  go_wp2_with fail
  refine (HPU.out _ HG.out).mono ?_
  rintro e w1 ⟨ev, rfl, hb1⟩
  have HO1 := Lib.hid (own_below HO.out hb1)
  have HB1 := Lib.hid ((hb1.block Bb (by omega)).trans HBB.out)
  have HW1 := Lib.hid (hb1.mono hN)
  have hs1 := hb1.size
  have g10 := cell_below hb1 h10
  have gsz := cell_below hb1 hsz
  have gb := (b_cell HB1.out).1
  have gf := (b_cell HB1.out).2
  have hN1 : N ≤ w1.heap.size := Nat.le_trans hN hs1
  have hbs : Bs < w1.heap.size := lt_of_cell gsz
  clear hb1 h10 hsz
  go_wp2
  have ra := (World.cell?_alloc_lt w1 (.cells #[.int .u32 x] 56) ⟨Bb, 0, none⟩ (by show Bb < _; omega)).trans gb
  have rs := (World.cell?_alloc_lt w1 (.cells #[.int .u32 x] 56) ⟨Bs, 0, none⟩ (by show Bs < _; omega)).trans gsz
  go_region_law (first
    | (go_simp; go_at_call 30; refine (put_one 1 (by decide) w1.heap.size x hx _ ((Ints.new .u32 w1 [(x : Int)] 56 1 rfl (by omega)).below (Below.refl _ _).drew)).mono ?_; rintro e w2 ⟨b2, o2, c2, rfl, hc2, hge2, hlt2, hb2⟩; have HC2 := Lib.hid hc2; have HW2 := Lib.hid ((((Below.refl w1.heap.size w1).alloc (Nat.le_refl _) (.cells #[.int .u32 x] 56)).drew).trans (hb2.mono (by simp))); have HB2 := Lib.hid ((HW2.out.block Bb (by omega)).trans HB1.out); have gb2 := (b_cell HB2.out).1; have gf2 := (b_cell HB2.out).2; have gsz2 := cell_below HW2.out gsz; have hN2 : N ≤ w2.heap.size := Nat.le_trans hN1 HW2.out.size; clear hc2 hb2)
    | (refine step_append_lies _ rfl _ _ 23 rfl N 5 i0 (.int .u8 0) 1 1 Tryz.underlying23 hi hz0 hz1 hz2 rfl (by decide) (.slice a n c) n (zs.map (Value.int .u8)) rfl (own_below HO1.out HW2.out) ⟨b2, o2, none⟩ 1 c2 ((be 1 x).map (Value.int .u8)) rfl (by simp [be_length]) HC2.out (be_oneCell _ _) (by decide) (by unfold maxLen; omega) (by omega) hN2 _ rfl ?_; intro g cap w3 hown3 hgrow3 hat hlt3; have HGR := Lib.hid (grow_below hgrow3 (N := N) hN2 (fun r hr => ((own_below HO1.out HW2.out).lt r hr).1)); have HO3 := Lib.hid hown3; have HB3 := Lib.hid ((HGR.out.block Bb hbN).trans HB2.out); have gb3 := (b_cell HB3.out).1; have gf3 := (b_cell HB3.out).2; clear hown3 hgrow3 hat))
  all_goals
    have HFB := Lib.hid (b_set (u := .slice (some ⟨g, 0, none⟩) (n + 1) cap) HB3.out)
    have HFO := Lib.hid (own_set (B := Bb) (o := 0) (u := .slice (some ⟨g, 0, none⟩) (n + 1) cap) HO3.out hbN)
    have HFN := Lib.hid ((((ButN.of_below (b := Bb) HW1.out).trans (ButN.of_below (HW2.out.mono hN1))).trans (ButN.of_below HGR.out)).trans (ButN.set Bb N 0 w3 (.slice (some ⟨g, 0, none⟩) (n + 1) cap)))
    go_end0
    rw [← List.map_append] at HFO
    exact ⟨rfl, _, _, HFB.out, HFO.out, HFN.out⟩
set_option maxHeartbeats 8000000 in
theorem add16 (word : ByteArray) (x : Nat) (hx : x ≤ 65535) (Bb Bs Be N : Nat) (a : Option Addr) (n c : Nat) (zs : List Int) (W : World)
    (hpu : ∀ W, Glob W → Calls Tryz.prog 29 #[.string word, .int .i64 16, .int .i64 16] W fun e W' => ∃ ev, e = .returned (.tuple #[.int .u64 x, ev]) ∧ Below W.heap.size W W')
    (hg : Glob W) (h10 : W.cell? ⟨Be, 0, none⟩ = some (.int .i64 16)) (hsz : W.cell? ⟨Bs, 0, none⟩ = some (.int .i64 2)) (hb : W.heap[Bb]? = some (.cells #[.slice a n c] bT (0, 0)))
    (ho : W.ownsRow N 5 1 (.slice a n c) n (zs.map (Value.int .u8))) (hN : N ≤ W.heap.size) (hbN : Bb < N) (hn : n ≤ 1000000) :
    Calls Tryz.prog 28 #[.string word, .pointer (some ⟨Be, 0, none⟩), .pointer (some ⟨Bs, 0, none⟩), .pointer (some ⟨Bb, 0, none⟩)] W fun e W' => e = .returned (.tuple #[]) ∧
      ∃ a' c', W'.heap[Bb]? = some (.cells #[.slice a' (n + 2) c'] bT (0, 0)) ∧ W'.ownsRow N 5 1 (.slice a' (n + 2) c') (n + 2) ((zs ++ be 2 x).map (Value.int .u8)) ∧ ButN Bb N W W' := by
  obtain ⟨i0, hi, hz0, hz1, hz2⟩ := info_parts info_u8
  have HPU := Lib.hid hpu
  have HG := Lib.hid hg
  have HO := Lib.hid ho
  have HBB := Lib.hid hb
  have hw : IntKind.u32.wrap (x : Int) = (x : Int) := by rw [IntKind.wrap_u32]; omega
  clear hpu hg ho hb
  go_enter Tryz.func28, Tryz.ntmps28
  go_wp2_with fail
  refine (HPU.out _ HG.out).mono ?_
  rintro e w1 ⟨ev, rfl, hb1⟩
  have HO1 := Lib.hid (own_below HO.out hb1)
  have HB1 := Lib.hid ((hb1.block Bb (by omega)).trans HBB.out)
  have HW1 := Lib.hid (hb1.mono hN)
  have hs1 := hb1.size
  have g10 := cell_below hb1 h10
  have gsz := cell_below hb1 hsz
  have gb := (b_cell HB1.out).1
  have gf := (b_cell HB1.out).2
  have hN1 : N ≤ w1.heap.size := Nat.le_trans hN hs1
  have hbs : Bs < w1.heap.size := lt_of_cell gsz
  clear hb1 h10 hsz
  go_wp2
  have ra := (World.cell?_alloc_lt w1 (.cells #[.int .u32 x] 56) ⟨Bb, 0, none⟩ (by show Bb < _; omega)).trans gb
  have rs := (World.cell?_alloc_lt w1 (.cells #[.int .u32 x] 56) ⟨Bs, 0, none⟩ (by show Bs < _; omega)).trans gsz
  go_region_law (first
    | (go_simp; go_at_call 30; refine (put_one 2 (by decide) w1.heap.size x hx _ ((Ints.new .u32 w1 [(x : Int)] 56 1 rfl (by omega)).below (Below.refl _ _).drew)).mono ?_; rintro e w2 ⟨b2, o2, c2, rfl, hc2, hge2, hlt2, hb2⟩; have HC2 := Lib.hid hc2; have HW2 := Lib.hid ((((Below.refl w1.heap.size w1).alloc (Nat.le_refl _) (.cells #[.int .u32 x] 56)).drew).trans (hb2.mono (by simp))); have HB2 := Lib.hid ((HW2.out.block Bb (by omega)).trans HB1.out); have gb2 := (b_cell HB2.out).1; have gf2 := (b_cell HB2.out).2; have gsz2 := cell_below HW2.out gsz; have hN2 : N ≤ w2.heap.size := Nat.le_trans hN1 HW2.out.size; clear hc2 hb2)
    | (refine step_append_lies _ rfl _ _ 23 rfl N 5 i0 (.int .u8 0) 1 1 Tryz.underlying23 hi hz0 hz1 hz2 rfl (by decide) (.slice a n c) n (zs.map (Value.int .u8)) rfl (own_below HO1.out HW2.out) ⟨b2, o2, none⟩ 2 c2 ((be 2 x).map (Value.int .u8)) rfl (by simp [be_length]) HC2.out (be_oneCell _ _) (by decide) (by unfold maxLen; omega) (by omega) hN2 _ rfl ?_; intro g cap w3 hown3 hgrow3 hat hlt3; have HGR := Lib.hid (grow_below hgrow3 (N := N) hN2 (fun r hr => ((own_below HO1.out HW2.out).lt r hr).1)); have HO3 := Lib.hid hown3; have HB3 := Lib.hid ((HGR.out.block Bb hbN).trans HB2.out); have gb3 := (b_cell HB3.out).1; have gf3 := (b_cell HB3.out).2; clear hown3 hgrow3 hat))
  all_goals
    have HFB := Lib.hid (b_set (u := .slice (some ⟨g, 0, none⟩) (n + 2) cap) HB3.out)
    have HFO := Lib.hid (own_set (B := Bb) (o := 0) (u := .slice (some ⟨g, 0, none⟩) (n + 2) cap) HO3.out hbN)
    have HFN := Lib.hid ((((ButN.of_below (b := Bb) HW1.out).trans (ButN.of_below (HW2.out.mono hN1))).trans (ButN.of_below HGR.out)).trans (ButN.set Bb N 0 w3 (.slice (some ⟨g, 0, none⟩) (n + 2) cap)))
    go_end0
    rw [← List.map_append] at HFO
    exact ⟨rfl, _, _, HFB.out, HFO.out, HFN.out⟩
end Go.Proofs.YtmncmbbgdkkgaaaGreatDoor

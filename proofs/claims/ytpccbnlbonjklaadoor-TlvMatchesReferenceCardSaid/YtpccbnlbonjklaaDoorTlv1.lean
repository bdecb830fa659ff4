/- Frames: what a slice of them reads as; tlv.Put, bytes.Equal, tlv.Same. -/
import Derived.Test.YtpccbnlbonjklaaDoorTPad4
import Derived.Test.YtpccbnlbonjklaaDoorTPut
import Derived.Test.YtpccbnlbonjklaaDoorTPeek
import Derived.Test.YtpccbnlbonjklaaDoorTErr7
import Derived.Laws.IdiomStrings
import Derived.Deep.RegionWith
import Derived.Deep.RegionHeld3
namespace Go.Proofs.YtpccbnlbonjklaaDoor
set_option maxRecDepth 100000
open Go.RowKit

structure Fr where
  t : Int
  p : Part
def Fr.cs (f : Fr) : List Value := [.int .u16 f.t, .slice f.p.a f.p.n f.p.c]
def Fr.v (f : Fr) : Value := .agg #[.int .u16 f.t, .slice f.p.a f.p.n f.p.c]
def Fr.ok (w : World) (f : Fr) : Prop := Ints .u8 w f.p.a f.p.n f.p.c f.p.zs ∧ Byt f.p.zs ∧ 0 ≤ f.t ∧ f.t ≤ 65535
def Fr.m (f : Fr) : Int × List Int := (f.t, f.p.zs)
theorem Fr.ok.below {w w' : World} {f : Fr} (h : f.ok w) (hb : Below w.heap.size w w') : f.ok w' := ⟨h.1.below hb, h.2⟩
def fr (fs : List Fr) (k : Nat) : Fr := fs.getD k ⟨0, ⟨none, 0, 0, []⟩⟩
theorem fr_lt {fs : List Fr} {k : Nat} (h : k < fs.length) : fr fs k = fs[k] := by simp [fr, h]
theorem fr_mem {fs : List Fr} {k : Nat} (h : k < fs.length) : fr fs k ∈ fs := by rw [fr_lt h]; exact List.getElem_mem h
theorem take_succ_fr {fs : List Fr} {k : Nat} (h : k < fs.length) : fs.take (k + 1) = fs.take k ++ [fr fs k] := by
  rw [List.take_succ_eq_append_getElem h, fr_lt h]
/-- the cells of frames, one after the other -/
def cellsF (fs : List Fr) : List Value := fs.flatMap Fr.cs
theorem cellsF_length (fs : List Fr) : (cellsF fs).length = 2 * fs.length := by
  induction fs with
  | nil => rfl
  | cons f fs ih => simp only [cellsF, List.flatMap_cons, List.length_append, List.length_cons] at *; simp [Fr.cs, ih]; omega
theorem cellsF_at : ∀ (fs : List Fr) (k : Nat), k < fs.length → (cellsF fs)[k * 2]? = some (.int .u16 (fr fs k).t) ∧ (cellsF fs)[k * 2 + 1]? = some (.slice (fr fs k).p.a (fr fs k).p.n (fr fs k).p.c)
  | f :: fs, 0, _ => by simp [cellsF, Fr.cs, fr]
  | f :: fs, k + 1, h => by
    have ih := cellsF_at fs k (by simpa using h)
    have e1 : (k + 1) * 2 = k * 2 + 2 := by omega
    have e2 : (k + 1) * 2 + 1 = k * 2 + 1 + 2 := by omega
    simpa [cellsF, Fr.cs, fr, e1, e2] using ih
theorem cellsF_append (fs gs : List Fr) : cellsF (fs ++ gs) = cellsF fs ++ cellsF gs := by simp [cellsF]

/-- THE SLICE VALUE 'a, n, c' READS IN w AS THE FRAMES fs -/
def Frs (w : World) (a : Option Addr) (n c : Nat) (fs : List Fr) : Prop :=
  fs.length = n ∧ n ≤ c ∧ c ≤ 9223372036854775807 ∧ (∃ b off, (a = some ⟨b, off, none⟩ ∨ n ≤ 0) ∧ ∀ j, j < n → b < w.heap.size ∧ w.cell? ⟨b, off + j * 2, none⟩ = some (.int .u16 (fr fs j).t) ∧
    w.cell? ⟨b, off + j * 2 + 1, none⟩ = some (.slice (fr fs j).p.a (fr fs j).p.n (fr fs j).p.c)) ∧ ∀ f ∈ fs, f.ok w
theorem Frs.below {w w' : World} {a : Option Addr} {n c : Nat} {fs : List Fr} (h : Frs w a n c fs) (hb : Below w.heap.size w w') : Frs w' a n c fs := by
  obtain ⟨h1, h2, h3, ⟨b, off, ha, hc⟩, h5⟩ := h
  refine ⟨h1, h2, h3, ⟨b, off, ha, fun j hj => ?_⟩, fun f hf => (h5 f hf).below hb⟩
  obtain ⟨k0, k1, k2⟩ := hc j hj
  exact ⟨Nat.lt_of_lt_of_le k0 hb.size, (hb.cell (p := ⟨b, off + j * 2, none⟩) k0).trans k1, (hb.cell (p := ⟨b, off + j * 2 + 1, none⟩) k0).trans k2⟩
theorem Frs.nil (w : World) : Frs w none 0 0 [] := ⟨rfl, Nat.le_refl _, by omega, ⟨0, 0, .inr (Nat.le_refl _), fun j hj => absurd hj (by omega)⟩, fun f hf => by cases hf⟩
/-- a row of the call's own reads as what it holds -/
theorem Frs.own {w : World} {base : Nat} {e : TypeId} {v : Value} {n : Nat} {fs : List Fr} (h : w.ownsRow base e 2 v n (cellsF fs)) (hf : ∀ f ∈ fs, f.ok w) : ∃ a c, v = .slice a n c ∧ Frs w a n c fs := by
  obtain ⟨h1, h2⟩ := h
  have hl : fs.length = n := by rw [cellsF_length] at h1; omega
  rcases h2 with ⟨rfl, rfl⟩ | ⟨g, cap, cur, rfl, hg, hh, hn, hm, hs, ht⟩
  · obtain rfl : fs = [] := List.length_eq_zero_iff.1 hl
    exact ⟨none, 0, rfl, Frs.nil w⟩
  · refine ⟨_, _, rfl, hl, hn, by simpa [maxLen] using hm, ⟨g, 0, .inl rfl, fun j hj => ?_⟩, hf⟩
    have hc : ∀ i v, (cellsF fs)[i]? = some v → w.cell? ⟨g, 0 + i, none⟩ = some v := fun i v hv => by
      rw [cell_of_row w g (0 + i) cur e (0, 0) hh]
      rw [← ht, List.getElem?_take] at hv
      split at hv
      · simpa using hv
      · cases hv
    exact ⟨(Array.getElem?_eq_some_iff.1 hh).1, hc _ _ (cellsF_at fs j (by omega)).1, by rw [Nat.add_assoc]; exact hc _ _ (cellsF_at fs j (by omega)).2⟩

/-! bytes.Equal -/
def u8s (zs : List Int) : List UInt8 := zs.map fun z => UInt8.ofNat z.toNat
theorem u8s_int {zs : List Int} (h : Byt zs) : (u8s zs).map (fun b => Value.int .u8 (b.toNat : Int)) = zs.map (Value.int .u8) := by
  rw [u8s, List.map_map]
  refine List.map_congr_left fun z hz => ?_
  have := h z hz
  simp only [Function.comp]
  congr 1
  rw [UInt8.toNat_ofNat']
  omega
theorem u8s_inj {xs ys : List Int} (hx : Byt xs) (hy : Byt ys) (h : u8s xs = u8s ys) : xs = ys := by
  have h1 := u8s_int hx
  rw [h, u8s_int hy] at h1
  exact (List.map_inj_right (fun a b e => by injection e)).1 h1.symm
theorem conv_nil (w : World) : (convert 22 9 (.slice none 0 0)).run Tryd.prog w = .ok (.string ⟨(u8s []).toArray⟩) w := by kernel_rfl
theorem convert_bytes (w : World) (a : Option Addr) (n c : Nat) (zs : List Int) (h : Ints .u8 w a n c zs) (hb : Byt zs) :
    (convert 22 9 (.slice a n c)).run Tryd.prog w = .ok (.string ⟨(u8s zs).toArray⟩) w := by
  have hl := h.len
  have hul : (u8s zs).length = n := by rw [u8s, List.length_map, hl]
  rcases h.cells with ⟨hn, hz⟩ | ⟨b, off, ha, hlt, hn, hc⟩
  · subst hn; subst hz
    cases a with
    | none =>
      obtain rfl := h.2.2.2.1 rfl
      exact conv_nil w
    | some x => exact run_convert_bytes_back w _ _ 5 x c [] Tryd.underlying22 Tryd.underlying5 Tryd.underlying9 (fun j hj => by cases hj)
  · subst ha
    have := run_convert_bytes_back (P := Tryd.prog) w 22 9 5 ⟨b, off, none⟩ c (u8s zs) Tryd.underlying22 Tryd.underlying5 Tryd.underlying9 (fun j hj => by
      rw [Addr.add_lit, hc j (by omega)]
      have h2 := hb.nth j
      have h3 : (u8s zs)[j] = UInt8.ofNat (nth zs j).toNat := by simp [u8s, nth_lt (show j < zs.length by omega)]
      rw [h3, UInt8.toNat_ofNat']
      congr 2
      omega)
    rw [hul] at this
    exact this

theorem equal_any (a b : Option Addr) (n c m d : Nat) (xs ys : List Int) (w : World) (hx : Ints .u8 w a n c xs) (hy : Ints .u8 w b m d ys) (bx : Byt xs) (bz : Byt ys) :
    Calls Tryd.prog 32 #[.slice a n c, .slice b m d] w fun e w' => e = .returned (.bool (eqL xs ys)) ∧ w = w' := by
  have h1 := convert_bytes w a n c xs hx bx
  have h2 := convert_bytes w b m d ys hy bz
  have HX := Lib.hid bx
  have HY := Lib.hid bz
  clear hx hy bx bz
  go_enter Tryd.func32, Tryd.ntmps32
  go_wp2
  go_ret
  refine ⟨ret_bool ?_, rfl⟩
  by_cases h : xs = ys
  · subst h; simp [eqL]
  · have h3 : u8s xs ≠ u8s ys := fun e => h (u8s_inj HX.out HY.out e)
    rw [eqL_false h]
    simp [h3]

/-- tlv.Same -/
theorem tsame_any (f g : Fr) (w : World) (hf : f.ok w) (hg : g.ok w) :
    Calls Tryd.prog 20 #[.agg #[.int .u16 f.t, .slice f.p.a f.p.n f.p.c], .agg #[.int .u16 g.t, .slice g.p.a g.p.n g.p.c]] w fun e w' => e = .returned (.bool (decide (f.m = g.m))) ∧ Below w.heap.size w w' := by
  have HF := Lib.hid hf
  have HG := Lib.hid hg
  clear hf hg
  obtain ⟨ft, ⟨fa, fn, fc, fz⟩⟩ := f
  obtain ⟨gt, ⟨ga, gn, gc, gz⟩⟩ := g
  have hw : Below w.heap.size w ((w.alloc (.cells #[.int .u16 ft, .slice fa fn fc] 48)).alloc (.cells #[.int .u16 gt, .slice ga gn gc] 48)) := ((Below.refl _ w).alloc (Nat.le_refl _) _).alloc (by simp) _
  have HW := Lib.hid hw
  clear hw
  by_cases he : ft = gt
  · subst he
    go_enter Tryd.func20, Tryd.ntmps20
    go_wp2_with fail
    refine (equal_any _ _ _ _ _ _ _ _ _ (HF.out.1.below HW.out) (HG.out.1.below HW.out) HF.out.2.1 HG.out.2.1).mono ?_
    rintro e w' ⟨rfl, rfl⟩
    go_wp2
    go_ret
    refine ⟨ret_bool ?_, HW.out⟩
    simp [eqL, Fr.m]
  · go_enter Tryd.func20, Tryd.ntmps20
    go_wp2
    go_ret
    refine ⟨ret_bool ?_, HW.out⟩
    simp [Fr.m, he]

/-! Put -/
/-- the bytes of a frame -/
def encF (f : Int × List Int) : List Int := [f.1 / 256 % 256, f.1 % 256, (4 + f.2.length : Int) / 256 % 256, (4 + f.2.length : Int) % 256] ++ f.2
theorem encF_length (f : Int × List Int) : (encF f).length = f.2.length + 4 := by simp [encF]
theorem encF_put (t : Int) (zs : List Int) : encF (t, zs) = Wr.putZ 2 [t, 4 + zs.length] ++ zs := by
  simp [encF, Wr.putZ, Wr.rightB, Wr.putL, Wr.be, Wr.be4]
theorem putZ_len (t m : Int) : (Wr.putZ 2 [t, m]).length = 4 := by simp [Wr.putZ, Wr.rightB, Wr.putL, Wr.be, Wr.be4]
theorem tjoin_any (a : Option Addr) (n c : Nat) (ps : List Part) (w : World) (hp : Parts w a n c ps) (ht : tot ps ≤ 1099511627776) :
    Calls Tryd.prog 30 #[.slice a n c] w fun e w' => ∃ a' c', e = .returned (.slice a' (tot ps) c') ∧ w'.ownsRow w.heap.size 5 1 (.slice a' (tot ps) c') (tot ps) ((cat ps).map (Value.int .u8)) ∧ Below w.heap.size w w' := by
  have HP := Lib.hid hp
  clear hp
  go_enter Tryd.func30, Tryd.ntmps30
  go_wp2_with (go_at_call 41; refine (Pd.concat_any _ _ _ _ _ HP.out ht).mono ?_; rintro e w' ⟨v, rfl, hown, hb⟩; obtain ⟨a', c', hv, _⟩ := Sl.own hown; subst hv; have HO := Lib.hid hown; have HB := Lib.hid hb; clear hown hb)
  go_ret
  exact ⟨_, _, rfl, HO.out, HB.out⟩
theorem ints_of {k : IntKind} {w : World} {base : Nat} {e : TypeId} {a : Option Addr} {n c : Nat} {zs : List Int} (h : w.ownsRow base e 1 (.slice a n c) n (zs.map (Value.int k))) : Ints k w a n c zs := by
  obtain ⟨a', c', hv, hi⟩ := Ints.own h
  cases hv
  exact hi
theorem putf_no (f : Fr) (w : World) (hn : 65531 < f.p.n) :
    Calls Tryd.prog 18 #[.agg #[.int .u16 f.t, .slice f.p.a f.p.n f.p.c]] w fun e w' => e = .returned (.tuple #[.slice none 0 0, .bool false]) ∧ Below w.heap.size w w' := by
  have HW := Lib.hid ((Below.refl _ w).alloc (Nat.le_refl _) (.cells #[.int .u16 f.t, .slice f.p.a f.p.n f.p.c] 48))
  go_enter Tryd.func18, Tryd.ntmps18
  go_wp2
  go_ret2
  exact ⟨rfl, HW.out⟩
def hd4 (t m : Int) : List Int := Wr.putZ 2 [t, m]
theorem hd4_len (t m : Int) : (hd4 t m).length = 4 := putZ_len t m
theorem hd4_byt (t m : Int) : Byt (hd4 t m) := by
  intro z hz
  simp [hd4, Wr.putZ, Wr.rightB, Wr.putL, Wr.be, Wr.be4] at hz
  omega
theorem head_any (t m : Int) (b : Nat) (w : World) (h0 : w.cell? ⟨b, 0, none⟩ = some (.int .u32 t)) (h1 : w.cell? ⟨b, 1, none⟩ = some (.int .u32 m)) (ht0 : 0 ≤ t) (ht1 : t ≤ 65535) (hm0 : 0 ≤ m) (hm1 : m ≤ 65535) :
    Calls Tryd.prog 31 #[.int .i64 2, .slice (some ⟨b, 0, none⟩) 2 2] w fun e w' => ∃ a' c', e = .returned (.slice a' 4 c') ∧ w'.ownsRow w.heap.size 5 1 (.slice a' 4 c') 4 ((hd4 t m).map (Value.int .u8)) ∧ Below w.heap.size w w' := by
  have hi : Ints .u32 w (some ⟨b, 0, none⟩) 2 2 [t, m] := ⟨rfl, Nat.le_refl _, by omega, (fun h => by cases h), fun _ => ⟨b, 0, rfl, lt_of_cell h0, fun j v hv => by
    match j, hv with
    | 0, hv => cases hv; exact h0
    | 1, hv => cases hv; exact h1⟩⟩
  refine (Wr.put_any 2 _ 2 2 [t, m] w hi (fun x hx => by simp at hx; omega) (by omega)).mono ?_
  rintro e w' ⟨a', c', rfl, ho, hb⟩
  rw [putZ_len] at ho ⊢
  exact ⟨a', c', rfl, ho, hb⟩
/-- the two parts joined -/
theorem glue_any (t m : Int) (p : Part) (a2 : Option Addr) (c2 b B : Nat) (w : World) (h0 : w.cell? ⟨b, 0, none⟩ = some (.slice a2 4 c2)) (h1 : w.cell? ⟨b, 1, none⟩ = some (.slice p.a p.n p.c))
    (hh : Ints .u8 w a2 4 c2 (hd4 t m)) (hp : Ints .u8 w p.a p.n p.c p.zs) (hb : Byt p.zs) (hn : p.n ≤ 65531) (hB : B ≤ w.heap.size) :
    Calls Tryd.prog 30 #[.slice (some ⟨b, 0, none⟩) 2 2] w fun e w' => ∃ a' c', e = .returned (.slice a' (p.n + 4) c') ∧ w'.ownsRow B 5 1 (.slice a' (p.n + 4) c') (p.n + 4) ((hd4 t m ++ p.zs).map (Value.int .u8)) ∧ Below w.heap.size w w' := by
  have hps : Parts w (some ⟨b, 0, none⟩) 2 2 [⟨a2, 4, c2, hd4 t m⟩, p] := ⟨⟨rfl, Nat.le_refl _, by omega, (fun h => by cases h), fun _ => ⟨b, 0, rfl, lt_of_cell h0, fun j v hv => by
    match j, hv with
    | 0, hv => cases hv; exact h0
    | 1, hv => cases hv; exact h1⟩⟩, fun q hq => by
      simp only [List.mem_cons, List.not_mem_nil, or_false] at hq
      rcases hq with rfl | rfl
      · exact ⟨hh, hd4_byt t m⟩
      · exact ⟨hp, hb⟩⟩
  have ht : tot [⟨a2, 4, c2, hd4 t m⟩, p] = p.n + 4 := by simp [tot]; omega
  have hc : cat [⟨a2, 4, c2, hd4 t m⟩, p] = hd4 t m ++ p.zs := by simp [cat]
  refine (tjoin_any _ 2 2 _ w hps (by rw [ht]; omega)).mono ?_
  rintro e w' ⟨a', c', rfl, ho, hb⟩
  rw [ht, hc] at ho
  rw [ht]
  exact ⟨a', c', rfl, own_base ho hB, hb⟩
theorem own_hd {W w w' : World} {base : Nat} {e : TypeId} {a : Option Addr} {n c : Nat} {zs : List Int} (h : W.ownsRow base e 1 (.slice a n c) n (zs.map (Value.int .u8))) (hw : W = w) (hb : Below w.heap.size w w') : Ints .u8 w' a n c zs := by
  subst hw; exact (ints_of h).below hb

theorem glue_arm (t m : Int) (p : Part) (a2 : Option Addr) (c2 b : Nat) (w W w2 : World) (x y : Value) (e5 : TypeId) (hW : Below w.heap.size w W) (hb2 : Below W.heap.size W w2) (ho2 : w2.ownsRow W.heap.size 5 1 (.slice a2 4 c2) 4 ((hd4 t m).map (Value.int .u8)))
    (hp : Ints .u8 w p.a p.n p.c p.zs) (hb : Byt p.zs) (hn : p.n ≤ 65531) (hbe : b = w2.heap.size) (q0 : w2.cell? ⟨w.heap.size, 0, none⟩ = some x) (q1 : w2.cell? ⟨w.heap.size, 1, none⟩ = some y) :
    Calls Tryd.prog 30 #[.slice (some ⟨b, 0, none⟩) 2 2] (w2.alloc (.cells #[.slice a2 4 c2, .slice p.a p.n p.c] e5)) fun e w' => ∃ a' c', e = .returned (.slice a' (p.n + 4) c') ∧ w'.ownsRow w.heap.size 5 1 (.slice a' (p.n + 4) c') (p.n + 4) ((hd4 t m ++ p.zs).map (Value.int .u8)) ∧
      Below w.heap.size w w' ∧ w'.cell? ⟨w.heap.size, 0, none⟩ = some x ∧ w'.cell? ⟨w.heap.size, 1, none⟩ = some y := by
  subst hbe
  have q3 : w.heap.size < w2.heap.size := lt_of_cell q0
  have hB3 : Below w.heap.size w (w2.alloc (.cells #[.slice a2 4 c2, .slice p.a p.n p.c] e5)) := (hW.trans (hb2.mono hW.size)).alloc (Nat.le_of_lt q3) _
  refine (glue_any t m p a2 c2 w2.heap.size w.heap.size _ (by simp) (by simp) ((ints_of ho2).below ((Below.refl _ _).alloc (Nat.le_refl _) _)) (hp.below hB3) hb hn hB3.size).mono ?_
  rintro e w4 ⟨a4, c4, rfl, ho4, hb4⟩
  have p0 := (World.cell?_alloc_lt w2 (.cells #[.slice a2 4 c2, .slice p.a p.n p.c] e5) ⟨w.heap.size, 0, none⟩ q3).trans q0
  have p1 := (World.cell?_alloc_lt w2 (.cells #[.slice a2 4 c2, .slice p.a p.n p.c] e5) ⟨w.heap.size, 1, none⟩ q3).trans q1
  exact ⟨a4, c4, rfl, ho4, hB3.trans (hb4.mono hB3.size), (hb4.cell (p := ⟨w.heap.size, 0, none⟩) (lt_of_cell p0)).trans p0, (hb4.cell (p := ⟨w.heap.size, 1, none⟩) (lt_of_cell p1)).trans p1⟩

set_option maxHeartbeats 4000000 in
theorem putf_yes (f : Fr) (w : World) (hf : f.ok w) (hn : f.p.n ≤ 65531) :
    Calls Tryd.prog 18 #[.agg #[.int .u16 f.t, .slice f.p.a f.p.n f.p.c]] w fun e w' => ∃ a' c', e = .returned (.tuple #[.slice a' (f.p.n + 4) c', .bool true]) ∧ w'.ownsRow w.heap.size 5 1 (.slice a' (f.p.n + 4) c') (f.p.n + 4) ((encF f.m).map (Value.int .u8)) ∧ Below w.heap.size w w' := by
  have he : encF f.m = hd4 f.t (4 + f.p.n) ++ f.p.zs := by rw [← hf.1.len]; exact encF_put _ _
  rw [he]
  clear he
  obtain ⟨ft, p⟩ := f
  have HF := Lib.hid hf
  simp only at hn ⊢
  have hw1 : IntKind.u32.wrap ft = ft := by have := hf.2.2; rw [IntKind.wrap_u32]; simp at this; omega
  have hw2 : IntKind.u32.wrap (4 + (p.n : Int)) = 4 + p.n := by rw [IntKind.wrap_u32]; omega
  have hw3 : IntKind.i64.wrap (4 + (p.n : Int)) = 4 + p.n := by rw [IntKind.wrap_i64]; omega
  have HN := Lib.hid hn
  have hnn : decide (65531 < (p.n : Int)) = false := by simp; omega
  have HW := Lib.hid ((((Below.refl _ w).alloc (Nat.le_refl _) (.cells #[.int .u16 ft, .slice p.a p.n p.c] 48)).alloc (by simp) (.cells #[.int .u32 ft, .int .u32 (4 + p.n)] 46)).drew)
  clear hf
  go_enter Tryd.func18, Tryd.ntmps18
  go_wp2
  go_region_held3 (fun w' => w'.cell? ⟨w.heap.size, 0, none⟩ = some (.int .u16 ft) ∧ w'.cell? ⟨w.heap.size, 1, none⟩ = some (.slice p.a p.n p.c))
    (first | exact ⟨q0, q1⟩ | exact ⟨(World.cell?_alloc_lt _ _ ⟨w.heap.size, 0, none⟩ q3).trans q0, (World.cell?_alloc_lt _ _ ⟨w.heap.size, 1, none⟩ q3).trans q1⟩ | exact ⟨by simp, by simp⟩ | go_keep)
    (first
      | (go_at_call 31; refine (head_any ft (4 + p.n) (w.heap.size + 1) _ (by simp) (by simp) HF.out.2.2.1 HF.out.2.2.2 (by omega) (by have := HN.out; omega)).mono ?_; rintro e w2 ⟨a2, c2, rfl, ho2, hb2⟩; have HO2 := Lib.hid ho2; have HB2 := Lib.hid hb2; have q0 := (hb2.cell (p := ⟨w.heap.size, 0, none⟩) (by simp <;> omega)).trans (show _ = some (Value.int .u16 ft) by simp); have q1 := (hb2.cell (p := ⟨w.heap.size, 1, none⟩) (by simp <;> omega)).trans (show _ = some (Value.slice p.a p.n p.c) by simp); have q3 := lt_of_cell q0; clear hb2 ho2)
      | (go_at_call 30; refine (glue_arm ft (4 + p.n) p a2 c2 _ w _ w2 _ _ _ HW.out HB2.out HO2.out HF.out.1 HF.out.2.1 HN.out rfl q0 q1).mono ?_; rintro e w4 ⟨a4, c4, rfl, ho4, hb4, q0, q1⟩; have HO4 := Lib.hid ho4; have HB4 := Lib.hid hb4; clear ho4 hb4))
  all_goals (try go_wp2)
  all_goals go_ret2
  all_goals exact ⟨a4, c4, rfl, HO4.out, HB4.out⟩
end Go.Proofs.YtpccbnlbonjklaaDoor

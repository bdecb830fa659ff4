/- Plain words and lemmas on slices in memory, used by all walks of this seat: no statement stands here. -/
import Derived.Test.YtmncmbbgdkkgaaaGreatDoorRows
import Derived.WalkKit
import Derived.Handy
import Derived.WalkLawsBesides
import Derived.Lib.Hide
import Derived.Deep.QuietTactic
import Derived.BigQuiet
import Derived.BigRegion
import Derived.Laws.AppendOwnNone
import Derived.Lib.AppendZerosOnto
namespace Go.Proofs.YtmncmbbgdkkgaaaGreatDoor
open Go.RowKit

theorem ret_int {k : IntKind} {a b : Int} (h : a = b) : Ending.returned (.int k a) = .returned (.int k b) := by rw [h]
theorem ret_bool {a b : Bool} (h : a = b) : Ending.returned (.bool a) = .returned (.bool b) := by rw [h]

/-- the k-th number of a list, 0 behind its end -/
def nth (zs : List Int) (k : Nat) : Int := zs.getD k 0
theorem nth_lt {zs : List Int} {k : Nat} (h : k < zs.length) : nth zs k = zs[k] := by
  simp [nth, h]
theorem nth_cons_zero (z : Int) (zs : List Int) : nth (z :: zs) 0 = z := rfl
theorem nth_cons_succ (z : Int) (zs : List Int) (k : Nat) : nth (z :: zs) (k + 1) = nth zs k := by simp [nth]
theorem nth_mem {zs : List Int} {k : Nat} (h : k < zs.length) : nth zs k ∈ zs := by
  rw [nth_lt h]; exact List.getElem_mem h
theorem nth_get? {zs : List Int} {k : Nat} (h : k < zs.length) : zs[k]? = some (nth zs k) := by
  rw [nth_lt h]; exact List.getElem?_eq_getElem h
theorem nth_append_left {xs ys : List Int} {k : Nat} (h : k < xs.length) : nth (xs ++ ys) k = nth xs k := by
  simp [nth, List.getElem?_append_left h]
theorem nth_append_right {xs ys : List Int} {k : Nat} (h : xs.length ≤ k) : nth (xs ++ ys) k = nth ys (k - xs.length) := by
  simp [nth, List.getElem?_append_right h]
theorem take_succ_nth {zs : List Int} {k : Nat} (h : k < zs.length) : zs.take (k + 1) = zs.take k ++ [nth zs k] := by
  rw [List.take_succ_eq_append_getElem h, nth_lt h]
theorem drop_nth {zs : List Int} {k : Nat} (h : k < zs.length) : zs.drop k = nth zs k :: zs.drop (k + 1) := by
  rw [List.drop_eq_getElem_cons h, nth_lt h]
theorem ext_nth {xs ys : List Int} (hl : xs.length = ys.length) (h : ∀ j, j < xs.length → nth xs j = nth ys j) : xs = ys := by
  apply List.ext_getElem hl
  intro j h1 h2
  have := h j h1
  rwa [nth_lt h1, nth_lt h2] at this

/-- whether two lists are the same -/
def eqL (xs ys : List Int) : Bool := decide (xs = ys)
theorem eqL_true {xs ys : List Int} (h : xs = ys) : eqL xs ys = true := by simp [eqL, h]
theorem eqL_false {xs ys : List Int} (h : ¬ xs = ys) : eqL xs ys = false := by simp [eqL, h]
/-- all numbers are bytes -/
def Byt (zs : List Int) : Prop := ∀ z ∈ zs, 0 ≤ z ∧ z < 256
theorem Byt.nth {zs : List Int} (h : Byt zs) (k : Nat) : 0 ≤ nth zs k ∧ nth zs k < 256 := by
  by_cases hk : k < zs.length
  · exact h _ (nth_mem hk)
  · have : YtmncmbbgdkkgaaaGreatDoor.nth zs k = 0 := by simp only [YtmncmbbgdkkgaaaGreatDoor.nth, List.getD]; rw [List.getElem?_eq_none (by omega)]; rfl
    rw [this]; omega
theorem Byt.append {xs ys : List Int} (hx : Byt xs) (hy : Byt ys) : Byt (xs ++ ys) := fun z hz => by
  rcases List.mem_append.1 hz with h | h
  · exact hx z h
  · exact hy z h
theorem Byt.replicate (n : Nat) : Byt (List.replicate n 0) := fun z hz => by
  obtain rfl := List.eq_of_mem_replicate hz; omega
theorem Byt.take {xs : List Int} (hx : Byt xs) (n : Nat) : Byt (xs.take n) := fun z hz => hx z (List.mem_of_mem_take hz)
theorem Byt.drop {xs : List Int} (hx : Byt xs) (n : Nat) : Byt (xs.drop n) := fun z hz => hx z (List.mem_of_mem_drop hz)

/-- THE SLICE VALUE 'a, n, c' READS IN w AS THE VALUES xs (one cell each). -/
def Sl (w : World) (a : Option Addr) (n c : Nat) (xs : List Value) : Prop :=
  xs.length = n ∧ n ≤ c ∧ c ≤ 9223372036854775807 ∧ (a = none → c = 0) ∧
  (0 < n → ∃ b off, a = some ⟨b, off, none⟩ ∧ b < w.heap.size ∧ ∀ j v, xs[j]? = some v → w.cell? ⟨b, off + j, none⟩ = some v)
/-- .. as numbers of kind k -/
def Ints (k : IntKind) (w : World) (a : Option Addr) (n c : Nat) (zs : List Int) : Prop := Sl w a n c (zs.map (Value.int k))

theorem lt_of_cell {w : World} {a : Addr} {v : Value} (h : w.cell? a = some v) : a.block < w.heap.size := by
  simp only [World.cell?] at h
  split at h
  · rename_i hh; exact (Array.getElem?_eq_some_iff.1 hh).1
  · cases h

theorem Sl.below {w w' : World} {a : Option Addr} {n c : Nat} {xs : List Value} (h : Sl w a n c xs) (hb : Below w.heap.size w w') : Sl w' a n c xs := by
  obtain ⟨h1, h2, h3, h4, h5⟩ := h
  refine ⟨h1, h2, h3, h4, fun hn => ?_⟩
  obtain ⟨b, off, ha, hlt, hc⟩ := h5 hn
  exact ⟨b, off, ha, Nat.lt_of_lt_of_le hlt hb.size, fun j v hv => (hb.cell (p := ⟨b, off + j, none⟩) hlt).trans (hc j v hv)⟩
theorem Ints.below {k : IntKind} {w w' : World} {a : Option Addr} {n c : Nat} {zs : List Int} (h : Ints k w a n c zs) (hb : Below w.heap.size w w') : Ints k w' a n c zs := Sl.below h hb
theorem Ints.len {k : IntKind} {w : World} {a : Option Addr} {n c : Nat} {zs : List Int} (h : Ints k w a n c zs) : zs.length = n := by
  simpa using h.1
theorem Ints.cap {k : IntKind} {w : World} {a : Option Addr} {n c : Nat} {zs : List Int} (h : Ints k w a n c zs) : n ≤ c ∧ c ≤ 9223372036854775807 := ⟨h.2.1, h.2.2.1⟩
theorem Ints.cells {k : IntKind} {w : World} {a : Option Addr} {n c : Nat} {zs : List Int} (h : Ints k w a n c zs) :
    (n = 0 ∧ zs = []) ∨ ∃ b off, a = some ⟨b, off, none⟩ ∧ b < w.heap.size ∧ 0 < n ∧ ∀ j, j < n → w.cell? ⟨b, off + j, none⟩ = some (.int k (nth zs j)) := by
  have hl := h.len
  obtain ⟨h1, h2, h3, h4, h5⟩ := h
  by_cases hn : 0 < n
  · obtain ⟨b, off, ha, hlt, hc⟩ := h5 hn
    refine .inr ⟨b, off, ha, hlt, hn, fun j hj => hc j _ ?_⟩
    rw [List.getElem?_map, nth_get? (by omega)]; rfl
  · have : n = 0 := by omega
    subst this
    exact .inl ⟨rfl, List.length_eq_zero_iff.1 hl⟩

/-- the cells, whatever the length: at length 0 the address is any -/
theorem Ints.loc {k : IntKind} {w : World} {a : Option Addr} {n c : Nat} {zs : List Int} (h : Ints k w a n c zs) :
    ∃ b off, (a = some ⟨b, off, none⟩ ∨ n ≤ 0) ∧ ∀ j, j < n → b < w.heap.size ∧ w.cell? ⟨b, off + j, none⟩ = some (.int k (nth zs j)) := by
  rcases h.cells with ⟨rfl, _⟩ | ⟨b, off, ha, hb, _, hc⟩
  · exact ⟨0, 0, .inr (Nat.le_refl _), fun j hj => absurd hj (by omega)⟩
  · exact ⟨b, off, .inl ha, fun j hj => ⟨hb, hc j hj⟩⟩
theorem Sl.nil (w : World) : Sl w none 0 0 [] := ⟨rfl, Nat.le_refl _, by omega, fun _ => rfl, fun h => absurd h (by omega)⟩
theorem Ints.nil (k : IntKind) (w : World) : Ints k w none 0 0 [] := Sl.nil w

/-- a row of the call's own reads as what it holds -/
theorem Sl.own {w : World} {base : Nat} {e : TypeId} {v : Value} {n : Nat} {xs : List Value} (h : w.ownsRow base e 1 v n xs) : ∃ a c, v = .slice a n c ∧ Sl w a n c xs := by
  obtain ⟨h1, h2⟩ := h
  rcases h2 with ⟨rfl, rfl⟩ | ⟨g, cap, cur, rfl, hg, hh, hn, hm, hs, ht⟩
  · obtain rfl : xs = [] := List.length_eq_zero_iff.1 (by simpa using h1)
    exact ⟨none, 0, rfl, Sl.nil w⟩
  · refine ⟨_, _, rfl, by simpa using h1, hn, by simpa [maxLen] using hm, (fun h => by cases h), fun _ => ⟨g, 0, rfl, (Array.getElem?_eq_some_iff.1 hh).1, fun j v hv => ?_⟩⟩
    rw [cell_of_row w g (0 + j) cur e (0, 0) hh]
    rw [← ht, List.getElem?_take] at hv
    split at hv
    · simpa using hv
    · cases hv
theorem Ints.own {k : IntKind} {w : World} {base : Nat} {e : TypeId} {v : Value} {n : Nat} {zs : List Int} (h : w.ownsRow base e 1 v n (zs.map (Value.int k))) : ∃ a c, v = .slice a n c ∧ Ints k w a n c zs := Sl.own h

/-- a part of a slice: 'x[lo:hi]' -/
theorem Sl.sub {w : World} {a : Option Addr} {n c : Nat} {xs : List Value} (h : Sl w a n c xs) {lo hi : Nat} (h1 : lo ≤ hi) (h2 : hi ≤ n) :
    Sl w (Option.map (fun x => x.add lo) a) (hi - lo) (c - lo) ((xs.take hi).drop lo) := by
  obtain ⟨l1, l2, l3, l4, l5⟩ := h
  refine ⟨by simp only [List.length_drop, List.length_take]; omega, by omega, by omega, fun hn => ?_, fun hn => ?_⟩
  · have : a = none := by cases a <;> simp_all
    have := l4 this
    omega
  · obtain ⟨b, off, rfl, hlt, hc⟩ := l5 (by omega)
    refine ⟨b, off + lo, ?_, hlt, fun j v hv => ?_⟩
    · simp only [Option.map_some, Addr.add]; split <;> simp_all
    · rw [List.getElem?_drop, List.getElem?_take] at hv
      split at hv
      · rw [Nat.add_assoc]; exact hc _ _ hv
      · cases hv
theorem Sl.sub_end {w : World} {a : Option Addr} {n c : Nat} {xs : List Value} (h : Sl w a n c xs) {lo hi : Nat} (h1 : lo ≤ hi) (h2 : hi ≤ n) (he : c = lo) :
    Sl w a (hi - lo) 0 ((xs.take hi).drop lo) := by
  obtain ⟨l1, l2, l3, l4, l5⟩ := h
  refine ⟨by simp only [List.length_drop, List.length_take]; omega, by omega, by omega, fun _ => rfl, fun hn => by omega⟩
theorem Ints.sub {k : IntKind} {w : World} {a : Option Addr} {n c : Nat} {zs : List Int} (h : Ints k w a n c zs) {lo hi : Nat} (h1 : lo ≤ hi) (h2 : hi ≤ n) :
    Ints k w (Option.map (fun x => x.add lo) a) (hi - lo) (c - lo) ((zs.take hi).drop lo) := by
  unfold Ints; rw [List.map_drop, List.map_take]; exact Sl.sub h h1 h2
theorem Ints.sub_end {k : IntKind} {w : World} {a : Option Addr} {n c : Nat} {zs : List Int} (h : Ints k w a n c zs) {lo hi : Nat} (h1 : lo ≤ hi) (h2 : hi ≤ n) (he : c = lo) :
    Ints k w a (hi - lo) 0 ((zs.take hi).drop lo) := by
  unfold Ints; rw [List.map_drop, List.map_take]; exact Sl.sub_end h h1 h2 he

/-- a new block -/
theorem Sl.new (w : World) (xs : List Value) (e : TypeId) (n : Nat) (hn : xs.length = n) (hm : n ≤ 9223372036854775807) : Sl (w.alloc (.cells xs.toArray e)) (some ⟨w.heap.size, 0, none⟩) n n xs := by
  refine ⟨hn, Nat.le_refl _, hm, (fun h => by cases h), fun _ => ⟨w.heap.size, 0, rfl, by simp, fun j v hv => ?_⟩⟩
  rw [World.cell?_alloc_at _ _ _ _ rfl]
  simpa using hv

/-- 'append(out, x...)': out a row of the call's own, x whatever slice (nil too); a guard that is met is let by -/
theorem append_own_any {P : Program} (w : World) {ops : Array Oper} {rest : List Oper} {o : Oper} {a : Act} {Q : Exit → Act → World → Prop} (hgd : Region.wanted o (yielded ops a.tmps) = true) (s x : Operand) (t : TypeId)
    (ho : o.op = .call { callee := .builtin .append, args := #[s, x], argTypes := #[t, t] })
    (base : Nat) (e : TypeId) (i : TypeInfo) (z : Value) (bytes : Nat) (ht : P.underlying t = some (.slice e)) (hi : P.info? e = some i) (hz : i.zero = some z)
    (hsize : i.size = 1) (hby : i.bytes = bytes) (hzs : z.cells.size = 1)
    (v : Value) (n : Nat) (xs : List Value) (hs : a.eval s = v) (hown : w.ownsRow base e 1 v n xs)
    (ao : Option Addr) (m c : Nat) (news : List Value) (hx : a.eval x = .slice ao m c) (hsl : Sl w ao m c news) (h1 : ∀ u ∈ news, u.oneCell' = true)
    (h63 : n + m ≤ maxLen) (hbytes : (n + m) * bytes ≤ 140737488355328) (hbase : base ≤ w.heap.size)
    (h : ∀ v' w', Hid (w'.ownsRow base e 1 v' (n + m) (xs ++ news)) → Hid (w.grownBy w' v.ownBlock) → wpList P ops Q rest (a.put o.dst v') w') : wpList P ops Q (o :: rest) a w := by
  refine wpList_step fun K hK => ?_
  rw [if_pos hgd]
  obtain ⟨l1, l2, l3, l4, l5⟩ := hsl
  cases ao with
  | none =>
    obtain rfl := l4 rfl
    obtain rfl : m = 0 := by omega
    obtain rfl : news = [] := List.length_eq_zero_iff.1 l1
    have hrun := run_append_owned_none (P := P) (w := w) base t o.type e i 1 ht hi v n xs hown
    unfold Oper.wp
    simp [execOp, ho, resolve, invoke, builtin, hs, hx, hrun, Result.andThen]
    exact hK _ _ (h v w (Lib.hid (by simpa using hown)) (Lib.hid (World.grownBy.refl _ _)))
  | some ad =>
    refine wp_append_own w s x t ho base e i z 1 bytes ht hi hz hsize hby hzs (by decide) v n xs hs hown ad m c news hx (by omega) (fun j u hu => ?_) h1 h63 hbytes hbase (fun v' w' h2 h3 _ => hK _ _ (h v' w' (Lib.hid h2) (Lib.hid h3)))
    have hj := (List.getElem?_eq_some_iff.1 hu).1
    obtain ⟨b, off, ha, _, hc⟩ := l5 (by omega)
    obtain rfl := Option.some.inj ha
    rw [Addr.add_lit]
    exact hc j u hu

theorem Sl.at (w : World) (b : Nat) (xs : List Value) (e : TypeId) (n : Nat) (hb : b = w.heap.size) (hn : xs.length = n) (hm : n ≤ 9223372036854775807) : Sl (w.alloc (.cells xs.toArray e)) (some ⟨b, 0, none⟩) n n xs := by
  subst hb; exact Sl.new w xs e n hn hm
theorem Ints.new (k : IntKind) (w : World) (zs : List Int) (e : TypeId) (n : Nat) (hn : zs.length = n) (hm : n ≤ 9223372036854775807) : Ints k (w.alloc (.cells (zs.map (Value.int k)).toArray e)) (some ⟨w.heap.size, 0, none⟩) n n zs :=
  Sl.new w _ e n (by simpa using hn) hm
theorem Ints.at (k : IntKind) (w : World) (b : Nat) (zs : List Int) (e : TypeId) (n : Nat) (hb : b = w.heap.size) (hn : zs.length = n) (hm : n ≤ 9223372036854775807) : Ints k (w.alloc (.cells (zs.map (Value.int k)).toArray e)) (some ⟨b, 0, none⟩) n n zs := by
  subst hb; exact Ints.new k w zs e n hn hm
theorem own_base {w : World} {base base' : Nat} {e : TypeId} {size : Nat} {v : Value} {n : Nat} {xs : List Value} (h : w.ownsRow base e size v n xs) (hb : base' ≤ base) : w.ownsRow base' e size v n xs := by
  obtain ⟨h1, h2⟩ := h
  refine ⟨h1, ?_⟩
  rcases h2 with h2 | ⟨g, cap, cur, hv, hg, r⟩
  · exact .inl h2
  · exact .inr ⟨g, cap, cur, hv, Nat.le_trans hb hg, r⟩
/-- a row of the call's own is kept where nothing that was there has turned -/
theorem own_below {w w' : World} {base : Nat} {e : TypeId} {size : Nat} {v : Value} {n : Nat} {xs : List Value} (h : w.ownsRow base e size v n xs) (hb : Below w.heap.size w w') : w'.ownsRow base e size v n xs := by
  obtain ⟨h1, h2⟩ := h
  refine ⟨h1, ?_⟩
  rcases h2 with h2 | ⟨g, cap, cur, hv, hg, hh, r⟩
  · exact .inl h2
  · exact .inr ⟨g, cap, cur, hv, hg, (hb.block g (Array.getElem?_eq_some_iff.1 hh).1).trans hh, r⟩
theorem below_grown {w w' : World} {row : Option Nat} (hg : w.grownBy w' row) (hr : row = none) : Below w.heap.size w w' :=
  (Below.refl _ w).grown hg (Nat.le_refl _) (fun k hk => by rw [hr] at hk; cases hk)

/-- a slice of slices: its parts -/
structure Part where
  a : Option Addr
  n : Nat
  c : Nat
  zs : List Int
def Part.v (p : Part) : Value := .slice p.a p.n p.c
def Parts (w : World) (a : Option Addr) (n c : Nat) (ps : List Part) : Prop := Sl w a n c (ps.map Part.v) ∧ ∀ p ∈ ps, Ints .u8 w p.a p.n p.c p.zs ∧ Byt p.zs
def prt (ps : List Part) (k : Nat) : Part := ps.getD k ⟨none, 0, 0, []⟩
theorem prt_lt {ps : List Part} {k : Nat} (h : k < ps.length) : prt ps k = ps[k] := by simp [prt, h]
theorem prt_mem {ps : List Part} {k : Nat} (h : k < ps.length) : prt ps k ∈ ps := by rw [prt_lt h]; exact List.getElem_mem h
theorem prt_get? {ps : List Part} {k : Nat} (h : k < ps.length) : ps[k]? = some (prt ps k) := by rw [prt_lt h]; exact List.getElem?_eq_getElem h
theorem take_succ_prt {ps : List Part} {k : Nat} (h : k < ps.length) : ps.take (k + 1) = ps.take k ++ [prt ps k] := by
  rw [List.take_succ_eq_append_getElem h, prt_lt h]
/-- all lengths -/
def tot (ps : List Part) : Nat := (ps.map Part.n).sum
/-- all bytes, part after part -/
def cat (ps : List Part) : List Int := ps.flatMap Part.zs
theorem tot_take {ps : List Part} {k : Nat} (h : k < ps.length) : tot (ps.take (k + 1)) = tot (ps.take k) + (prt ps k).n := by rw [take_succ_prt h]; simp [tot]
theorem cat_take {ps : List Part} {k : Nat} (h : k < ps.length) : cat (ps.take (k + 1)) = cat (ps.take k) ++ (prt ps k).zs := by rw [take_succ_prt h]; simp [cat]
theorem tot_take_le (ps : List Part) (k : Nat) : tot (ps.take k) ≤ tot ps := by
  have : tot ps = tot (ps.take k) + tot (ps.drop k) := by
    unfold tot; rw [← List.sum_append, ← List.map_append, List.take_append_drop]
  omega
theorem part_le {ps : List Part} {k : Nat} (h : k < ps.length) : tot (ps.take k) + (prt ps k).n ≤ tot ps := by
  rw [← tot_take h]; exact tot_take_le _ _
theorem Parts.below {w w' : World} {a : Option Addr} {n c : Nat} {ps : List Part} (h : Parts w a n c ps) (hb : Below w.heap.size w w') : Parts w' a n c ps :=
  ⟨h.1.below hb, fun p hp => ⟨(h.2 p hp).1.below hb, (h.2 p hp).2⟩⟩
theorem Parts.len {w : World} {a : Option Addr} {n c : Nat} {ps : List Part} (h : Parts w a n c ps) : ps.length = n := by simpa using h.1.1
theorem Parts.cells {w : World} {a : Option Addr} {n c : Nat} {ps : List Part} (h : Parts w a n c ps) :
    (n = 0 ∧ ps = []) ∨ ∃ b off, a = some ⟨b, off, none⟩ ∧ b < w.heap.size ∧ 0 < n ∧ ∀ j, j < n → w.cell? ⟨b, off + j, none⟩ = some (.slice (prt ps j).a (prt ps j).n (prt ps j).c) := by
  have hl := h.len
  obtain ⟨⟨h1, h2, h3, h4, h5⟩, _⟩ := h
  by_cases hn : 0 < n
  · obtain ⟨b, off, ha, hlt, hc⟩ := h5 hn
    refine .inr ⟨b, off, ha, hlt, hn, fun j hj => hc j _ ?_⟩
    rw [List.getElem?_map, prt_get? (by omega)]; rfl
  · have : n = 0 := by omega
    subst this
    exact .inl ⟨rfl, List.length_eq_zero_iff.1 hl⟩
theorem Parts.new (w : World) (ps : List Part) (e : TypeId) (n : Nat) (hn : ps.length = n) (hm : n ≤ 9223372036854775807) (h : ∀ p ∈ ps, Ints .u8 w p.a p.n p.c p.zs ∧ Byt p.zs) :
    Parts (w.alloc (.cells (ps.map Part.v).toArray e)) (some ⟨w.heap.size, 0, none⟩) n n ps :=
  ⟨Sl.new w _ e n (by simpa using hn) hm, fun p hp => ⟨(h p hp).1.below ((Below.refl _ _).alloc (Nat.le_refl _) _), (h p hp).2⟩⟩
theorem cat_len {w : World} {ps : List Part} (h : ∀ p ∈ ps, Ints .u8 w p.a p.n p.c p.zs ∧ Byt p.zs) : (cat ps).length = tot ps := by
  induction ps with
  | nil => rfl
  | cons p ps ih =>
    have h1 := (h p (by simp)).1.len
    have h2 := ih (fun q hq => h q (by simp [hq]))
    simp only [cat, tot, List.flatMap_cons, List.length_append, List.map_cons, List.sum_cons] at *
    omega
theorem cat_byt {w : World} {ps : List Part} (h : ∀ p ∈ ps, Ints .u8 w p.a p.n p.c p.zs ∧ Byt p.zs) : Byt (cat ps) := by
  intro z hz
  obtain ⟨p, hp, hz⟩ := List.mem_flatMap.1 hz
  exact (h p hp).2 z hz

/-- what the row's reading of a slice of integers gives -/
theorem row_ints {k : IntKind} {w : World} {a : Option Addr} {len cap : Nat} {zs : List Int}
    (h : (a = none ∧ len = 0 ∧ cap = 0 ∧ zs = []) ∨
      ∃ x, a = some x ∧ len ≤ cap ∧ cap ≤ maxLen ∧ zs.length = cap ∧ (∀ i, i < zs.length → w.cell? (x.add i) = some (.int k (zs.getD i 0))) ∧ ∀ n ∈ zs, (Lit.int k n).wf = true) :
    Ints k w a len cap (zs.take len) ∧ ∀ n ∈ zs.take len, (Lit.int k n).wf = true := by
  rcases h with ⟨rfl, rfl, rfl, rfl⟩ | ⟨x, rfl, hl, hm, hz, hc, hw⟩
  · exact ⟨Ints.nil k w, fun n hn => by simp at hn⟩
  · refine ⟨⟨by simp; omega, hl, by unfold maxLen at hm; exact hm, (fun h => by cases h), fun hn => ?_⟩, fun n hn => hw n (List.mem_of_mem_take hn)⟩
    obtain ⟨b, off, sp⟩ := x
    have h0 := hc 0 (by omega)
    have hsp : sp = none := by
      simp only [Addr.add, if_pos] at h0
      simp only [World.cell?] at h0
      split at h0
      · cases sp <;> simp_all
      · cases h0
    subst hsp
    refine ⟨b, off, rfl, ?_, fun j v hv => ?_⟩
    · have := lt_of_cell h0
      simpa [Addr.add] using this
    · rw [List.getElem?_map] at hv
      obtain ⟨z, hz1, rfl⟩ := Option.map_eq_some_iff.1 hv
      rw [List.getElem?_take] at hz1
      split at hz1
      · have := hc j (by omega)
        rw [Addr.add_lit] at this
        rw [this]
        have : zs.getD j 0 = z := by simp [List.getD, hz1]
        rw [this]
      · cases hz1
theorem row_byt {zs : List Int} (h : ∀ n ∈ zs, (Lit.int .u8 n).wf = true) : Byt zs := fun z hz => by
  have := bounds_u8 (h z hz); omega

end Go.Proofs.YtmncmbbgdkkgaaaGreatDoor

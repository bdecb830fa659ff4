/- address.All of two nodes, the first an address, the other none. -/
import Derived.Test.YtmncmbbgdkkgaaaGreatDoorAd14
namespace Go.Proofs.YtmncmbbgdkkgaaaGreatDoor
set_option maxRecDepth 100000
set_option linter.unusedVariables false
set_option linter.unusedSimpArgs false
open Go.RowKit Go.Shelf
section
attribute [local go_sem] Oper.semAt_some

theorem kf_below {T : List TypeId} {B : Nat} {W W' : World} (h : Below W.heap.size W W') : KF T B W W' := ⟨h.size, fun k o _ hk _ => (h.block k (Array.getElem?_eq_some_iff.1 hk).1).trans hk⟩
theorem same_below {A : Nat → Prop} {W W' : World} (h : Below W.heap.size W W') : SameA A W W' := ⟨h.size, fun k _ hk => h.block k hk⟩
theorem info_nd : (Tryz.prog.info? 26).map (fun i => (i.zero, i.size, i.bytes)) = some (some (.agg #[.int .u16 0, .slice none 0 0, .slice none 0 0]), 3, 56) := by kernel_rfl
def JustN (R : Act → World → Prop) : Exit → Act → World → Prop
  | .normal, a, w => R a w
  | _, _, _ => False
def noDefer (ops : Array Oper) : Bool := ops.toList.all fun o => match o.op with | .defer _ => false | _ => true
theorem noDefer_spec {ops : Array Oper} (h : noDefer ops = true) (i : Nat) (o : Oper) (ho : ops[i]? = some o) (c : Call) : o.op ≠ .defer c := by
  intro he
  unfold noDefer at h
  rw [List.all_eq_true] at h
  have := h o (by rw [← Array.getElem?_toList] at ho; exact List.mem_of_getElem? ho)
  rw [he] at this
  cases this
theorem own_cells3 {w : World} {base g cap : Nat} {e : TypeId} {x0 x1 x2 : Value} (h : w.ownsRow base e 3 (.slice (some ⟨g, 0, none⟩) 1 cap) 1 [x0, x1, x2]) :
    base ≤ g ∧ g < w.heap.size ∧ w.cell? ⟨g, 0, none⟩ = some x0 ∧ w.cell? ⟨g, 1, none⟩ = some x1 ∧ w.cell? ⟨g, 2, none⟩ = some x2 ∧ w.frozen? ⟨g, 0, none⟩ = false ∧ w.frozen? ⟨g, 1, none⟩ = false ∧ w.frozen? ⟨g, 2, none⟩ = false := by
  obtain ⟨-, ⟨h, _⟩ | ⟨g', cap', cur, hv, hg, hh, -, -, -, ht⟩⟩ := h
  · cases h
  · simp only [Value.slice.injEq, Option.some.injEq, Addr.mk.injEq, and_true, true_and] at hv
    obtain ⟨rfl, rfl⟩ := hv
    have hc : ∀ j, j < 3 → w.cell? ⟨g, j, none⟩ = [x0, x1, x2][j]? := fun j hj => by
      rw [cell_of_row w g j cur e (0, 0) hh, ← ht, List.getElem?_take, if_pos (by omega)]
      simp
    exact ⟨hg, (Array.getElem?_eq_some_iff.1 hh).1, hc 0 (by omega), hc 1 (by omega), hc 2 (by omega), by simp [World.frozen?, hh], by simp [World.frozen?, hh], by simp [World.frozen?, hh]⟩
theorem kf_but {T : List TypeId} {B b : Nat} {W W' : World} (h : ButN b W.heap.size W W') (hb : b < B) : KF T B W W' := ⟨h.size, fun k o hk ho _ => (h.block k (Array.getElem?_eq_some_iff.1 ho).1 (by omega)).trans ho⟩
theorem same_but {b c : Nat} {W W' : World} (h : ButN b W.heap.size W W') (hb : c ≠ b) : SameA (fun x => x = c) W W' := ⟨h.size, fun k hk hl => h.block k hl (by rw [hk]; exact hb)⟩
theorem frozen_ne {W : World} {B B' o o' : Nat} {u : Value} {x : Bool} (h : W.frozen? ⟨B, o, none⟩ = x) (hne : B' ≠ B) : (W.setCell ⟨B', o', none⟩ u).frozen? ⟨B, o, none⟩ = x := by
  rw [← h]
  simp only [World.frozen?]
  rw [Below.heap_setCell _ _ _ _ (by show B ≠ B'; omega)]
theorem any_listed {P : Program} {md : Region.Mode} {ops : Array Oper} {Q : Exit → Act → World → Prop} {fuel : Nat} {l : Array Bool} {a : Act} {w : World} (l' : Array Bool) (e : l = l') (h : wpAny P md ops Q fuel l' a w) : wpAny P md ops Q fuel l a w := e ▸ h
theorem regionIn_any {l n : Nat} {P : Program} {id : Nat} {ops : Array Oper} {Q : Exit → Act → World → Prop} {a : Act} {w : World} (hm : P.follows .mixedOrders = true) (hd : noDefer ops = true)
    (h : wpAny P .any ops (JustN fun a w => Q .normal a w) ops.size (Array.replicate ops.size false) a w.drew) : (Code.region id ops true).wpIn (Fence.wide.inRound l) n P Q a w := by
  refine wpIn_mono (Q := JustN fun a w => Q .normal a w) (wpIn_region_any hm (anyIn_round (noDefer_spec hd) (fun hq => by obtain ⟨_, _, h⟩ := hq; exact h) _ _ _ _ h)) ?_
  intro e a w h
  cases e <;> first | exact h | exact False.elim h
def two (x y : Nat) (j : Nat) : Nat := if j = 0 then x else y
def twoI (x y : Int) (j : Nat) : Int := if j = 0 then x else y
def twoA (x y : Option Addr) (j : Nat) : Option Addr := if j = 0 then x else y

set_option maxHeartbeats 8000000 in
theorem all_two (b : Nat) (t0 t1 : Int) (a0 a1 k0 k1 : Option Addr) (n0 n1 c0 c1 d0 d1 : Nat) (xs ys : List Int) (w : World) (hx : Ints .u8 w a0 n0 c0 xs) (hy : Ints .u8 w a1 n1 c1 ys) (bx : Byt xs) (by' : Byt ys)
    (h0 : isB t0 n0 0 = true) (h1 : isB t1 n1 0 = false) (hb : w.heap[b]? = some (.cells #[.int .u16 t0, .slice a0 n0 c0, .slice k0 0 d0, .int .u16 t1, .slice a1 n1 c1, .slice k1 0 d1] 26 (0, 0))) :
    Calls Tryz.prog 19 #[.slice (some ⟨b, 0, none⟩) 2 2] w fun e w' => ∃ a c, e = .returned (.slice a 1 c) ∧ Below w.heap.size w w' := by
  obtain ⟨i0, hi, hz0, hz1, hz2⟩ := info_parts info_nd
  have HX := Lib.hid hx
  have HY := Lib.hid hy
  have HB := Lib.hid hb
  have hblt : b < w.heap.size := (Array.getElem?_eq_some_iff.1 hb).1
  clear hx hy hb
  refine (callsIn_wide (n := 9)).1 ?_
  refine callsIn_of_wp_marks Tryz.func19 rfl trivial ?_ rfl
  simp only [Tryz.ntmps19, List.size_toArray, List.length_cons, List.length_nil, Nat.reduceAdd, Nat.reduceSub, Array.replicate_succ, Array.replicate_zero, List.push_toArray, List.append_toArray, List.nil_append, List.cons_append]
  refine wpIn_wide.2 ?_
  go_wp2_with (go_at_call 39; refine (walk_any _ _ _ _ rfl _).mono ?_; rintro e w1 ⟨rfl, rfl⟩)
  obtain ⟨W1, hW1⟩ : ∃ W1, w.alloc (.cells #[.slice none 0 0] 24) = W1 := ⟨_, rfl⟩
  have hs1 : W1.heap.size = w.heap.size + 1 := by rw [← hW1]; simp
  have bO1 : Boxed W1 w.heap.size 24 (.slice none 0 0) := by rw [← hW1]; exact Boxed.new _ _ _
  have hb1 : Below w.heap.size w W1 := by rw [← hW1]; exact (Below.refl _ _).alloc (Nat.le_refl _) _
  rw [hW1]
  obtain ⟨W2, hW2⟩ : ∃ W2, W1.alloc (.cells #[.slice (some ⟨b, 0, none⟩) 2 2] 24) = W2 := ⟨_, rfl⟩
  have hs2 : W2.heap.size = w.heap.size + 2 := by rw [← hW2]; simp [hs1]
  have bO2 : Boxed W2 w.heap.size 24 (.slice none 0 0) := by rw [← hW2]; exact bO1.alloc _
  have bL2 : Boxed W2 (w.heap.size + 1) 24 (.slice (some ⟨b, 0, none⟩) 2 2) := by rw [← hW2, ← hs1]; exact Boxed.new _ _ _
  have hb2 : Below w.heap.size w W2 := by rw [← hW2]; exact hb1.alloc hb1.size _
  rw [hW2]
  have hb3 := (hb2.block b hblt).trans HB.out
  clear hW1 hW2 bO1 hb1
  refine wpIn_wide.1 (wp_rangeM (n := 9) (gf := 57) (lb := #[.pointer (some ⟨w.heap.size + 1, 0, none⟩)]) (by first | rfl | (rw [← hs1]; rfl)) (enters_of Tryz.func57 (by kernel_rfl) rfl)
    (walk1_seq (9 - 1) (w.heap.size + 1) b 2 (twoI t0 t1) (twoA a0 a1) (two n0 n1) (two c0 c1) (twoA k0 k1) (two d0 d1) (by omega) W2 (by omega) bL2.cell (by
      intro j hj
      obtain rfl | rfl : j = 0 ∨ j = 1 := by omega
      all_goals simp [World.cell?, hb3, two, twoI, twoA])) (Below.refl _ _) (by rintro x rfl; omega) (fun _ => rfl)
    (fun k W => Below w.heap.size w W ∧ ∃ v, Boxed W w.heap.size 24 v ∧ ((k = 0 ∧ v = .slice none 0 0) ∨ (0 < k ∧ ∃ a c, v = .slice a 1 c)))
    (fun _ _ _ => False)
    (fun k a' W => (Below w.heap.size w W ∧ ∃ v, Boxed W w.heap.size 24 v ∧ ((k = 0 ∧ v = .slice none 0 0) ∨ (0 < k ∧ ∃ a c, v = .slice a 1 c))) ∧
      ∃ B, W2.heap.size ≤ B ∧ a' = { tmps := #[.slice (some ⟨b, 0, none⟩) 2 2, undef, .slice none 0 0, .pointer (some ⟨w.heap.size, 0, none⟩), undef, .pointer (some ⟨B, 0, none⟩), undef, undef, .slice (some ⟨b, 0, none⟩) 2 2, .func (.func 57) #[] #[.pointer (some ⟨w.heap.size + 1, 0, none⟩)], .int .i64 1, .agg #[.int .u16 (twoI t0 t1 k), .slice (twoA a0 a1 k) (two n0 n1 k) (two c0 c1 k), .slice (twoA k0 k1 k) 0 (two d0 d1 k)], undef, undef, undef, undef, undef, undef, undef, undef, undef, undef, undef, undef, undef], defers := [] } ∧ NdB W B (.int .u16 (twoI t0 t1 k)) (.slice (twoA a0 a1 k) (two n0 n1 k) (two c0 c1 k)) (.slice (twoA k0 k1 k) 0 (two d0 d1 k)))
    ?own2 ?own (fun _ _ _ _ _ hs _ _ => hs) ⟨hb2, _, bO2, .inl ⟨rfl, rfl⟩⟩ ?assign ?body ?done ?stop)
  case own =>
    intro s A B row hs hg hr
    have hr1 : ∀ r, row = some r → w.heap.size + 2 ≤ r := fun r e => by have := (hr r e).1; omega
    obtain ⟨hb, v, hv, hc⟩ := hs
    exact ⟨hb.trans ((Below.refl w.heap.size A).grown hg hb.size (fun k hk => by have := hr1 k hk; omega)), v, hv.kept hg (fun e => by have := hr1 _ e.symm; omega), hc⟩
  case own2 =>
    rintro a' s A B row ⟨⟨hb, v, hv, hc⟩, B0, hB0, ha, hn⟩ hg hr
    have hr1 : ∀ r, row = some r → w.heap.size + 2 ≤ r := fun r e => by have := (hr r e).1; omega
    refine ⟨⟨hb.trans ((Below.refl w.heap.size A).grown hg hb.size (fun k hk => by have := hr1 k hk; omega)), v, hv.kept hg (fun e => by have := hr1 _ e.symm; omega), hc⟩, B0, hB0, ha, ?_⟩
    refine (hg.block B0 hn.lt (fun e => ?_)).trans hn
    obtain ⟨_, o, ho, hoc⟩ := hr _ e.symm
    have hn' : A.heap[B0]? = _ := hn
    rw [hn'] at ho
    cases ho
    cases hoc
  case assign =>
    rintro l k W K hl hlW hk ⟨hb, v, hv, hc⟩ hK
    gi_wp2
    have hal : Below W.heap.size W (W.alloc (.cells #[.int .u16 (twoI t0 t1 k), .slice (twoA a0 a1 k) (two n0 n1 k) (two c0 c1 k), .slice (twoA k0 k1 k) 0 (two d0 d1 k)] 26)) := (Below.refl _ _).alloc (Nat.le_refl _) _
    exact hK _ _ (kf_below hal) (same_below hal) ⟨⟨hb.alloc hb.size _, v, hv.alloc _, hc⟩, W.heap.size, by omega, rfl, NdB.new _ _ _ _⟩
  case body =>
    rintro l k a' W hl hlW hk ⟨⟨hb, v, hv, hc⟩, B, hB, rfl, hn⟩
    have HV := Lib.hid hv
    have HBW := Lib.hid hb
    have HN := Lib.hid hn
    have hBl := hn.lt
    have hwl := hb.size
    obtain ⟨p0, p1, p2⟩ := hn.cell
    obtain rfl | rfl : k = 0 ∨ k = 1 := by omega
    · simp only [two, twoI, twoA, if_pos] at p0 p1 p2 HN ⊢
      obtain rfl : v = .slice none 0 0 := by rcases hc with ⟨_, h⟩ | ⟨h, _⟩; exact h; omega
      clear hv hb hn hc
      gi_wp2_with fail
      refine ⟨trivial, ?_⟩
      refine (CallsIn.inRound l (callsIn_wide.2 (bytes_yes t0 a0 n0 c0 k0 0 d0 xs W (HX.out.below HBW.out) bx h0))).mono ?_
      rintro e w1 ⟨a5, c5, rfl, -, hb1⟩
      gi_wp2_with fail
      have HB1 := Lib.hid hb1
      have HN1 := Lib.hid (HN.out.below hb1 hBl)
      have HO1 : Boxed w1 w.heap.size 24 (.slice none 0 0) := (hb1.block w.heap.size (by omega)).trans HV.out
      have hs1 : W.heap.size ≤ w1.heap.size := hb1.size
      clear hb1 p0 p1 p2
      refine regionIn_any (by kernel_rfl) (by kernel_rfl) ?_
      obtain ⟨W5, hW5⟩ : ∃ W5, w1.drew = W5 := ⟨_, rfl⟩
      have HB5 : Hid (Below W.heap.size W W5) := by rw [← hW5]; exact HB1.out.drew
      have HN5 : Hid (NdB W5 B (.int .u16 t0) (.slice a0 n0 c0) (.slice k0 0 d0)) := by rw [← hW5]; exact HN1.out
      have HO5 : Boxed W5 w.heap.size 24 (.slice none 0 0) := by rw [← hW5]; exact HO1
      have hs5 : W.heap.size ≤ W5.heap.size := HB5.out.size
      rw [hW5]
      clear hW5 HO1 HN1 HB1 hs1
      have o0 : W5.cell? ⟨w.heap.size, 0, none⟩ = some (.slice none 0 0) := HO5.cell
      have q : NdB W5 B _ _ _ := HN5.out
      have q' := q.below ((Below.refl _ _).alloc (Nat.le_refl _) (.cells #[.int .u16 0, .slice none 0 0, .slice none 0 0] 26)) q.lt
      obtain ⟨q0, q1, q2⟩ := q.cell
      obtain ⟨r0, r1, r2⟩ := q'.cell
      have o1 : (W5.alloc (.cells #[.int .u16 0, .slice none 0 0, .slice none 0 0] 26)).cell? ⟨w.heap.size, 0, none⟩ = some (.slice none 0 0) := (HO5.alloc (.cells #[.int .u16 0, .slice none 0 0, .slice none 0 0] 26)).cell
      clear q q'
      refine wpAny_ready (rs := [0, 1, 3]) (by kernel_rfl) (by simp) ?_
      refine AllReady.cons rfl ?s1 ?t1
      case' s1 =>
        intro K hK
        go_simp
        refine hK _ _ ?_
        clear hK K
        refine wpAny_take (i := 2) (v := ?_) rfl (by kernel_rfl) (by kernel_rfl) (by kernel_rfl) (fun _ _ _ h => h) (Or.inl ⟨by rfl, by first | (intro w; go_simp; done) | (intro w; go_simp; with_reducible rfl)⟩) ?_
        try simp only [Act.put, List.setIfInBounds_toArray, List.set]
        refine wpAny_ready (rs := [1, 3]) (by kernel_rfl) (by simp) ?_
        refine AllReady.cons rfl ?s2 ?t2
        case' s2 =>
          intro K hK
          go_simp
          refine hK _ _ ?_
          clear hK K
          refine wpAny_ready (rs := [3]) (by kernel_rfl) (by simp) ?_
          refine AllReady.cons rfl ?s3 AllReady.nil
          case' s3 =>
            intro K hK
            go_simp
            refine hK _ _ ?_
            clear hK K
            refine any_listed #[true, true, true, true, false, false, false, false] (by kernel_rfl) ?_
        case' t2 =>
          refine AllReady.cons rfl ?s4 AllReady.nil
          case' s4 =>
            intro K hK
            go_simp
            refine hK _ _ ?_
            clear hK K
            refine wpAny_ready (rs := [1]) (by kernel_rfl) (by simp) ?_
            refine AllReady.cons rfl ?s5 AllReady.nil
            case' s5 =>
              intro K hK
              go_simp
              refine hK _ _ ?_
              clear hK K
              refine any_listed #[true, true, true, true, false, false, false, false] (by kernel_rfl) ?_
      case' t1 =>
        refine AllReady.cons rfl ?s6 ?t6
        case' s6 =>
          intro K hK
          go_simp
          refine hK _ _ ?_
          clear hK K
          refine wpAny_ready (rs := [0, 3]) (by kernel_rfl) (by simp) ?_
          refine AllReady.cons rfl ?s7 ?t7
          case' s7 =>
            intro K hK
            go_simp
            refine hK _ _ ?_
            clear hK K
            refine wpAny_take (i := 2) (v := ?_) rfl (by kernel_rfl) (by kernel_rfl) (by kernel_rfl) (fun _ _ _ h => h) (Or.inl ⟨by rfl, by first | (intro w; go_simp; done) | (intro w; go_simp; with_reducible rfl)⟩) ?_
            try simp only [Act.put, List.setIfInBounds_toArray, List.set]
            refine wpAny_ready (rs := [3]) (by kernel_rfl) (by simp) ?_
            refine AllReady.cons rfl ?s8 AllReady.nil
            case' s8 =>
              intro K hK
              go_simp
              refine hK _ _ ?_
              clear hK K
              refine any_listed #[true, true, true, true, false, false, false, false] (by kernel_rfl) ?_
          case' t7 =>
            refine AllReady.cons rfl ?s9 AllReady.nil
            case' s9 =>
              intro K hK
              go_simp
              refine hK _ _ ?_
              clear hK K
              refine wpAny_ready (rs := [0]) (by kernel_rfl) (by simp) ?_
              refine AllReady.cons rfl ?s10 AllReady.nil
              case' s10 =>
                intro K hK
                go_simp
                refine hK _ _ ?_
                clear hK K
                refine wpAny_take (i := 2) (v := ?_) rfl (by kernel_rfl) (by kernel_rfl) (by kernel_rfl) (fun _ _ _ h => h) (Or.inl ⟨by rfl, by first | (intro w; go_simp; done) | (intro w; go_simp; with_reducible rfl)⟩) ?_
                try simp only [Act.put, List.setIfInBounds_toArray, List.set]
                refine any_listed #[true, true, true, true, false, false, false, false] (by kernel_rfl) ?_
        case' t6 =>
          refine AllReady.cons rfl ?s11 AllReady.nil
          case' s11 =>
            intro K hK
            go_simp
            refine hK _ _ ?_
            clear hK K
            refine wpAny_ready (rs := [0, 1]) (by kernel_rfl) (by simp) ?_
            refine AllReady.cons rfl ?s12 ?t12
            case' s12 =>
              intro K hK
              go_simp
              refine hK _ _ ?_
              clear hK K
              refine wpAny_take (i := 2) (v := ?_) rfl (by kernel_rfl) (by kernel_rfl) (by kernel_rfl) (fun _ _ _ h => h) (Or.inl ⟨by rfl, by first | (intro w; go_simp; done) | (intro w; go_simp; with_reducible rfl)⟩) ?_
              try simp only [Act.put, List.setIfInBounds_toArray, List.set]
              refine wpAny_ready (rs := [1]) (by kernel_rfl) (by simp) ?_
              refine AllReady.cons rfl ?s13 AllReady.nil
              case' s13 =>
                intro K hK
                go_simp
                refine hK _ _ ?_
                clear hK K
                refine any_listed #[true, true, true, true, false, false, false, false] (by kernel_rfl) ?_
            case' t12 =>
              refine AllReady.cons rfl ?s14 AllReady.nil
              case' s14 =>
                intro K hK
                go_simp
                refine hK _ _ ?_
                clear hK K
                refine wpAny_ready (rs := [0]) (by kernel_rfl) (by simp) ?_
                refine AllReady.cons rfl ?s15 AllReady.nil
                case' s15 =>
                  intro K hK
                  go_simp
                  refine hK _ _ ?_
                  clear hK K
                  refine wpAny_take (i := 2) (v := ?_) rfl (by kernel_rfl) (by kernel_rfl) (by kernel_rfl) (fun _ _ _ h => h) (Or.inl ⟨by rfl, by first | (intro w; go_simp; done) | (intro w; go_simp; with_reducible rfl)⟩) ?_
                  try simp only [Act.put, List.setIfInBounds_toArray, List.set]
                  refine any_listed #[true, true, true, true, false, false, false, false] (by kernel_rfl) ?_
      all_goals
        refine wpAny_ready (rs := [4]) (by kernel_rfl) (by simp) ?_
        refine AllReady.cons rfl (fun K hK => ?_) AllReady.nil
        refine step_append_lies _ rfl _ _ 24 rfl W5.heap.size 26 i0 (.agg #[.int .u16 0, .slice none 0 0, .slice none 0 0]) 3 56 Tryz.underlying24 hi hz0 hz1 hz2 rfl (by decide) (.slice none 0 0) 0 [] rfl (World.ownsRow_nil _ _ _ _) ⟨W5.heap.size, 0, none⟩ 1 1 [.int .u16 0, .slice none 0 0, .slice none 0 0] rfl rfl (World.news_of_block (World.alloc_heap_new _ _)) (by simp [Value.oneCell']) (by decide) (by unfold maxLen; omega) (by omega) (by simp) _ rfl ?_
        intro g cap w3 hown3 hgrow3 hat hlt3
        obtain ⟨hg5, -, s0, s1, s2, f0, f1, f2⟩ := own_cells3 hown3
        have HBU := Lib.hid ((ButN.of_below (b := w.heap.size) (HB5.out)).trans (ButN.of_below (((Below.refl W5.heap.size W5).alloc (Nat.le_refl _) (.cells #[.int .u16 0, .slice none 0 0, .slice none 0 0] 26)).trans ((Below.refl W5.heap.size _).grown hgrow3 (by simp) (fun k hk => by cases hk)) |>.mono hs5)))
        have hO3 : Boxed w3 w.heap.size 24 (.slice none 0 0) := (hgrow3.block w.heap.size (by simp; omega) (by simp [Value.ownBlock])).trans (HO5.alloc _)
        have u0 := hO3.cell
        have uf := hO3.frozen
        have hne1 : g ≠ w.heap.size := by omega
        have hne2 : w.heap.size ≠ g := by omega
        refine hK _ _ ?_
        clear hK K hown3 hgrow3 hat
        refine wpAny_take (i := 5) (v := ?_) rfl (by kernel_rfl) (by kernel_rfl) (by kernel_rfl) (fun _ _ _ h => h) (Or.inl ⟨by rfl, by first | (intro w; go_simp; done) | (intro w; go_simp; with_reducible rfl)⟩) ?_
        try simp only [Act.put, List.setIfInBounds_toArray, List.set]
        refine wpAny_ready (rs := [6, 7]) (by kernel_rfl) (by simp) ?_
        refine AllReady.cons rfl (fun K hK => ?_) ?_
        · go_simp
          obtain ⟨Z, hZ⟩ : ∃ Z, ((w3.setCell ⟨g, 0, none⟩ (.int .u16 t0)).setCell ⟨g, 1, none⟩ (.slice a0 n0 c0)).setCell ⟨g, 2, none⟩ (.slice k0 0 d0) = Z := ⟨_, rfl⟩
          rw [hZ]
          have hbz : Below g w3 Z := by rw [← hZ]; exact (((Below.refl g w3).setCell (p := ⟨g, 0, none⟩) (Nat.le_refl _) _).setCell (p := ⟨g, 1, none⟩) (Nat.le_refl _) _).setCell (p := ⟨g, 2, none⟩) (Nat.le_refl _) _
          have hOZ : Boxed Z w.heap.size 24 (.slice none 0 0) := (hbz.block _ (by omega)).trans hO3
          have z0 := hOZ.cell
          have zf := hOZ.frozen
          have HZ := Lib.hid hbz
          clear hZ hbz s0 s1 s2 f0 f1 f2 u0 uf
          refine hK _ _ ?_
          clear hK K
          refine wpAny_ready (rs := [7]) (by kernel_rfl) (by simp) ?_
          refine AllReady.cons rfl (fun K hK => ?_) AllReady.nil
          go_simp
          refine hK _ _ ?_
          clear hK K
          refine wpAny_done (by kernel_rfl) ?_ _
          have hbut : ButN w.heap.size W.heap.size W (Z.setCell ⟨w.heap.size, 0, none⟩ (.slice (some ⟨g, 0, none⟩) 1 cap)) := (HBU.out.trans (ButN.of_below (HZ.out.mono (by omega)))).trans (ButN.set _ _ 0 _ _)
          have hOb := hOZ.set (.slice (some ⟨g, 0, none⟩) 1 cap)
          have HF := Lib.hid (And.intro (kf_but (T := [93, 94, 26]) (B := W2.heap.size) hbut (by omega)) (And.intro (same_but (c := b) hbut (by omega)) (And.intro (HBW.out.trans (hbut.below (Nat.le_refl _) hwl)) hOb)))
          clear hbut hOb
          gi_wp2
          exact ⟨HF.out.1, HF.out.2.1, HF.out.2.2.1, _, HF.out.2.2.2, .inr ⟨by omega, _, _, rfl⟩⟩
        · refine AllReady.cons rfl (fun K hK => ?_) AllReady.nil
          go_simp
          have hOZ := hO3.set (.slice (some ⟨g, 0, none⟩) 1 cap)
          have e0 := cell_ne (B' := w.heap.size) (o' := 0) (u := .slice (some ⟨g, 0, none⟩) 1 cap) s0 (.inl hne2)
          have e1 := cell_ne (B' := w.heap.size) (o' := 0) (u := .slice (some ⟨g, 0, none⟩) 1 cap) s1 (.inl hne2)
          have e2 := cell_ne (B' := w.heap.size) (o' := 0) (u := .slice (some ⟨g, 0, none⟩) 1 cap) s2 (.inl hne2)
          have j0 := frozen_ne (o' := 0) (u := .slice (some ⟨g, 0, none⟩) 1 cap) f0 hne2
          have j1 := frozen_ne (o' := 0) (u := .slice (some ⟨g, 0, none⟩) 1 cap) f1 hne2
          have j2 := frozen_ne (o' := 0) (u := .slice (some ⟨g, 0, none⟩) 1 cap) f2 hne2
          have HB1 := Lib.hid (HBU.out.trans (ButN.set w.heap.size W.heap.size 0 w3 (.slice (some ⟨g, 0, none⟩) 1 cap)))
          obtain ⟨Z, hZ⟩ : ∃ Z, w3.setCell ⟨w.heap.size, 0, none⟩ (.slice (some ⟨g, 0, none⟩) 1 cap) = Z := ⟨_, rfl⟩
          rw [hZ] at hOZ e0 e1 e2 j0 j1 j2 HB1 ⊢
          clear hZ s0 s1 s2 f0 f1 f2 u0 uf
          refine hK _ _ ?_
          clear hK K
          refine wpAny_ready (rs := [6]) (by kernel_rfl) (by simp) ?_
          refine AllReady.cons rfl (fun K hK => ?_) AllReady.nil
          go_simp
          refine hK _ _ ?_
          clear hK K
          refine wpAny_done (by kernel_rfl) ?_ _
          have hbz : Below g Z (((Z.setCell ⟨g, 0, none⟩ (.int .u16 t0)).setCell ⟨g, 1, none⟩ (.slice a0 n0 c0)).setCell ⟨g, 2, none⟩ (.slice k0 0 d0)) := (((Below.refl g Z).setCell (p := ⟨g, 0, none⟩) (Nat.le_refl _) _).setCell (p := ⟨g, 1, none⟩) (Nat.le_refl _) _).setCell (p := ⟨g, 2, none⟩) (Nat.le_refl _) _
          have hbut := HB1.out.trans (ButN.of_below (hbz.mono (by omega)))
          have hOb : Boxed _ w.heap.size 24 (.slice (some ⟨g, 0, none⟩) 1 cap) := (hbz.block _ (by omega)).trans hOZ
          have HF := Lib.hid (And.intro (kf_but (T := [93, 94, 26]) (B := W2.heap.size) hbut (by omega)) (And.intro (same_but (c := b) hbut (by omega)) (And.intro (HBW.out.trans (hbut.below (Nat.le_refl _) hwl)) hOb)))
          clear hbut hOb hbz
          gi_wp2
          exact ⟨HF.out.1, HF.out.2.1, HF.out.2.2.1, _, HF.out.2.2.2, .inr ⟨by omega, _, _, rfl⟩⟩
    · simp only [two, twoI, twoA, if_neg (show ¬ (1 : Nat) = 0 by omega)] at p0 p1 p2 HN ⊢
      obtain ⟨ac, cc, rfl⟩ : ∃ a c, v = .slice a 1 c := by rcases hc with ⟨h, _⟩ | ⟨_, h⟩; omega; exact h
      clear hv hb hn hc
      gi_wp2_with fail
      refine ⟨trivial, ?_⟩
      refine (CallsIn.inRound l (callsIn_wide.2 (bytes_no t1 a1 n1 c1 k1 0 d1 ys W (HY.out.below HBW.out) by' h1))).mono ?_
      rintro e w1 ⟨rfl, hb1⟩
      have HB1 := Lib.hid hb1
      clear hb1
      gi_wp2
      exact ⟨kf_below HB1.out, same_below HB1.out, HBW.out.trans (HB1.out.mono HBW.out.size), _, (HB1.out.block w.heap.size (by omega)).trans HV.out, .inr ⟨by omega, _, _, rfl⟩⟩
  case done =>
    rintro D W hD ⟨hb, v, hv, hc⟩ hK
    obtain ⟨ac, cc, rfl⟩ : ∃ a c, v = .slice a 1 c := by rcases hc with ⟨h, _⟩ | ⟨_, h⟩; omega; exact h
    have hc := hv.cell
    go_wp2
    refine ⟨by simp, .inl ⟨_, _, rfl, run_takeDeferred hK, ?_⟩⟩
    exact ⟨_, results_tmp rfl _ _ _, ac, cc, rfl, hb.trans (belowK_b (w := w) (Nat.le_refl _) W D _ _ (by omega) hK rfl rfl)⟩
  case stop =>
    rintro D c j W _ _ h _
    exact h.elim
end
end Go.Proofs.YtmncmbbgdkkgaaaGreatDoor

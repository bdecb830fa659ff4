/- wire.Cursor: Peek, Number. -/
import Derived.Test.YtpccbnlbonjklaaDoorTCursor
import Derived.Test.YtpccbnlbonjklaaDoorTNums
namespace Go.Proofs.YtpccbnlbonjklaaDoor.Wr
open Go.RowKit Go.Shelf

theorem peek_no (bc : Nat) (a : Option Addr) (n c at' : Nat) (k : Int) (zs : List Int) (w : World) (h : Cur w bc a n c at' zs) (hk : numB n at' k = false) :
    Calls Tryd.prog 47 #[.pointer (some ⟨bc, 0, none⟩), .int .i64 k] w fun e w' => e = .returned (.tuple #[.int .u32 0, .bool false]) ∧ Below w.heap.size w w' := by
  have h3 := h.le
  have HC := Lib.hid (h.below (((Below.refl _ _).alloc (Nat.le_refl _) (.cells #[.int .u32 0] 46)).alloc (by simp) (.cells #[.bool false] 4)))
  clear h
  cases hr : rightB k with
  | false =>
    clear hk
    go_enter Tryd.func47, Tryd.ntmps47
    go_wp2_with (go_at_call 45; refine (right_any _ _).mono ?_; rintro e w' ⟨rfl, rfl⟩; rw [hr])
    refine bodyPost_ret (v := .tuple #[.int .u32 0, .bool false]) (by simp [results, Tryd.f47, go_sem]) rfl ⟨rfl, ?_⟩
    exact ((Below.refl _ _).alloc (Nat.le_refl _) _).alloc (by simp) _
  | true =>
    have hk : ((n - at' : Nat) : Int) < k := by unfold numB at hk; rw [hr] at hk; simp at hk; omega
    go_enter Tryd.func47, Tryd.ntmps47
    go_wp2_with (first | (go_at_call 45; refine (right_any _ _).mono ?_; rintro e w' ⟨rfl, rfl⟩; rw [hr]) | (go_at_call 48; refine (left_any _ _ _ _ _ _ _ HC.out).mono ?_; rintro e w1 ⟨rfl, q, rfl⟩))
    refine bodyPost_ret (v := .tuple #[.int .u32 0, .bool false]) (by simp [results, Tryd.f47, go_sem]) rfl ⟨rfl, ?_⟩
    exact ((below_drewN (((Below.refl _ _).alloc (Nat.le_refl _) _).alloc (by simp) _) q).setCell (p := ⟨w.heap.size, 0, none⟩) (Nat.le_refl _) _).setCell (p := ⟨w.heap.size + 1, 0, none⟩) (by simp) _

section
attribute [local go_sem] Oper.semAt_some
set_option maxRecDepth 100000 in
set_option maxHeartbeats 4000000 in
theorem peek_yes (bc : Nat) (a : Option Addr) (n c at' m : Nat) (zs : List Int) (w : World) (h : Cur w bc a n c at' zs) (hk : rightB m = true) (hm : at' + m ≤ n) :
    Calls Tryd.prog 47 #[.pointer (some ⟨bc, 0, none⟩), .int .i64 m] w fun e w' => e = .returned (.tuple #[.int .u32 (num ((zs.drop at').take m)), .bool true]) ∧ Below w.heap.size w w' := by
  have h3 := h.le
  have hlt := h.lt
  have hm4 : 1 ≤ m ∧ m ≤ 4 := by have := right_cases hk; omega
  have hcc := h.ints.cap
  have hbase : Below w.heap.size w ((w.alloc (.cells #[.int .u32 0] 46)).alloc (.cells #[.bool false] 4)) := ((Below.refl _ _).alloc (Nat.le_refl _) _).alloc (by simp) _
  have hC := h.below hbase
  obtain ⟨b, off, rfl, hbw, _, hcs⟩ : ∃ b off, a = some ⟨b, off, none⟩ ∧ b < w.heap.size ∧ 0 < n ∧ ∀ j, j < n → w.cell? ⟨b, off + j, none⟩ = some (.int .u8 (nth zs j)) := by
    rcases h.ints.cells with ⟨h1, _⟩ | h1
    · omega
    · exact h1
  have hb1 := hC.b
  have hb2 := hC.at
  have hs := hC.size
  have HC := Lib.hid hC
  have H := Lib.hid h
  have HCS := Lib.hid hcs
  have HB := Lib.hid hbase
  clear hC h hcs hbase
  refine (callsIn_wide (n := 9)).1 ?_
  refine callsIn_of_wp_marks Tryd.func47 rfl trivial ?_ rfl
  simp only [Tryd.ntmps47, List.size_toArray, List.length_cons, List.length_nil, Nat.reduceAdd, Nat.reduceSub, Array.replicate_succ, Array.replicate_zero, List.push_toArray, List.append_toArray, List.nil_append, List.cons_append]
  refine wpIn_wide.2 ?_
  have hd : decide (((n - at' : Nat) : Int) < (m : Int)) = false := by simp; omega
  go_wp2_with (first | (go_at_call 45; refine (right_any _ _).mono ?_; rintro e w' ⟨rfl, rfl⟩; rw [hk]) | (go_at_call 48; refine (left_any _ _ _ _ _ _ _ HC.out).mono ?_; rintro e w1 ⟨rfl, q, rfl⟩))
  have hc1 : (((w.alloc (.cells #[.int .u32 0] 46)).alloc (.cells #[.bool false] 4)).drewN q).cell? ⟨bc, 0, none⟩ = some (.slice (some ⟨b, off, none⟩) n c) := hb1
  have hc2 : (((w.alloc (.cells #[.int .u32 0] 46)).alloc (.cells #[.bool false] 4)).drewN q).cell? ⟨bc, 1, none⟩ = some (.int .i64 at') := hb2
  have hB2 := below_drewN HB.out q
  have hx1 : Boxed (((w.alloc (.cells #[.int .u32 0] 46)).alloc (.cells #[.bool false] 4)).drewN q) w.heap.size 46 (.int .u32 0) := (Boxed.new _ _ _).alloc _
  have hx2 : Boxed (((w.alloc (.cells #[.int .u32 0] 46)).alloc (.cells #[.bool false] 4)).drewN q) (w.heap.size + 1) 4 (.bool false) := by
    have := Boxed.new (w.alloc (.cells #[.int .u32 0] 46)) 4 (.bool false)
    rw [World.size_alloc] at this
    exact this
  have hsz : (((w.alloc (.cells #[.int .u32 0] 46)).alloc (.cells #[.bool false] 4)).drewN q).heap.size = w.heap.size + 2 := by simp [World.drewN]
  obtain ⟨W2, hW2⟩ : ∃ W2, (((w.alloc (.cells #[.int .u32 0] 46)).alloc (.cells #[.bool false] 4)).drewN q) = W2 := ⟨_, rfl⟩
  rw [hW2] at hc1 hc2 hB2 hx1 hx2 hsz ⊢
  clear hW2 hb1 hb2 HB HC hs
  go_still_tail 10, (by kernel_rfl)
  rw [if_neg (show ¬ c = at' by omega)]
  change wpList _ _ _ _ _ W2.drew
  have hC2 : Below w.heap.size w W2.drew := hB2.drew
  have hy1 : Boxed W2.drew w.heap.size 46 (.int .u32 0) := hx1
  have hy2 : Boxed W2.drew (w.heap.size + 1) 4 (.bool false) := hx2
  have hsz2 : W2.drew.heap.size = w.heap.size + 2 := hsz
  obtain ⟨W3, hW3⟩ : ∃ W3, W2.drew = W3 := ⟨_, rfl⟩
  rw [hW3] at hC2 hy1 hy2 hsz2 ⊢
  clear hW3 hx1 hx2 hsz hB2 hc1 hc2 hd W2
  go_wp2_with (go_at_call 55; refine (callsIn_wide.1 (numbers_in 0 _ _ _ _ _)).mono ?_; rintro e w' ⟨rfl, rfl⟩)
  have d1 := Boxed.new W3 3 (.int .i64 m)
  have d2 := Boxed.new (W3.alloc (.cells #[.int .i64 m] 3)) 22 (.slice (some ⟨b, off + at', none⟩) (n - at') (c - at'))
  have hB4 : Below W3.heap.size W3 ((W3.alloc (.cells #[.int .i64 m] 3)).alloc (.cells #[.slice (some ⟨b, off + at', none⟩) (n - at') (c - at')] 22)) := ((Below.refl _ _).alloc (Nat.le_refl _) _).alloc (by simp) _
  have hsz4 : ((W3.alloc (.cells #[.int .i64 m] 3)).alloc (.cells #[.slice (some ⟨b, off + at', none⟩) (n - at') (c - at')] 22)).heap.size = W3.heap.size + 2 := by simp
  rw [World.size_alloc] at d2
  have d1' := d1.alloc (.cells #[.slice (some ⟨b, off + at', none⟩) (n - at') (c - at')] 22)
  have e1 := (hy1.alloc (.cells #[.int .i64 m] 3)).alloc (.cells #[.slice (some ⟨b, off + at', none⟩) (n - at') (c - at')] 22)
  have e2 := (hy2.alloc (.cells #[.int .i64 m] 3)).alloc (.cells #[.slice (some ⟨b, off + at', none⟩) (n - at') (c - at')] 22)
  obtain ⟨W4, hW4⟩ : ∃ W4, ((W3.alloc (.cells #[.int .i64 m] 3)).alloc (.cells #[.slice (some ⟨b, off + at', none⟩) (n - at') (c - at')] 22)) = W4 := ⟨_, rfl⟩
  rw [hW4] at d2 hB4 hsz4 d1' e1 e2 ⊢
  rw [hsz2] at d1' d2
  have hC4 : Below w.heap.size w W4 := hC2.trans (hB4.mono hC2.size)
  clear hW4 d1 hy1 hy2
  have hin : Ints .u8 W4 (some ⟨b, off + at', none⟩) (n - at') (c - at') (zs.drop at') := by
    have h5 := (H.out.ints.below hC4).sub (lo := at') (hi := n) h3 (Nat.le_refl _)
    rw [← H.out.ints.len, List.take_length, H.out.ints.len] at h5
    rw [Option.map_some, Addr.add_lit] at h5
    exact h5
  have hcs' : ∀ j, j < n - at' → b < W4.heap.size ∧ W4.cell? ⟨b, off + at' + j, none⟩ = some (.int .u8 (nth (zs.drop at') j)) := by
    intro j hj
    refine ⟨by omega, ?_⟩
    have h6 := (hC4.cell (p := ⟨b, off + (at' + j), none⟩) hbw).trans (HCS.out (at' + j) (by omega))
    rw [← Nat.add_assoc] at h6
    rw [h6]
    congr 2
    unfold nth; rw [List.getD_eq_getElem?_getD, List.getD_eq_getElem?_getD, List.getElem?_drop]
  have hN : 1 ≤ (n - at') / m := (Nat.one_le_div_iff (by omega)).2 (by omega)
  refine wpIn_wide.1 (wp_rangeN (n := 9) (gf := 61) (lb := #[.pointer (some ⟨w.heap.size + 2 + 1, 0, none⟩), .pointer (some ⟨w.heap.size + 2, 0, none⟩)]) rfl (enters_of Tryd.func61 (by kernel_rfl) rfl)
    (numbers_seq 8 (by omega) (w.heap.size + 2 + 1) (w.heap.size + 2) (some ⟨b, off + at', none⟩) (n - at') (c - at') m (zs.drop at') hm4.1 hm4.2 b (off + at') (.inl rfl) W4 hin (H.out.byt.drop _) (by omega) (by omega) hcs' d2.cell d1'.cell) (Below.refl _ _)
    (by rintro x (rfl | rfl | rfl) <;> omega) (fun _ => rfl)
    (fun j W => (j = 0 ∧ Boxed W w.heap.size 46 (.int .u32 0) ∧ Boxed W (w.heap.size + 1) 4 (.bool false)) ∧ Below w.heap.size w W)
    (fun c j W => (c = .ret ∧ j = 0 ∧ Boxed W w.heap.size 46 (.int .u32 (numAt (zs.drop at') m 0)) ∧ Boxed W (w.heap.size + 1) 4 (.bool true)) ∧ Below w.heap.size w W)
    ?own ?ownx ⟨⟨rfl, e1, e2⟩, hC4⟩ (fun j => { tmps := #[.pointer (some ⟨bc, 0, none⟩), .int .i64 m, undef, undef, .pointer (some ⟨w.heap.size, 0, none⟩), .pointer (some ⟨w.heap.size + 1, 0, none⟩), .int .u32 (numAt (zs.drop at') m j), .int .i64 m, .bool true, .bool false, .bool false, .int .i64 m, .pointer (some ⟨bc, 0, none⟩),
      .int .i64 ((n - at' : Nat) : Int), .bool false, .bool false, .int .i64 m, .pointer (some ⟨bc, 0, none⟩), .pointer (some ⟨bc, 0, none⟩), .pointer (some ⟨bc, 0, none⟩), .slice (some ⟨b, off, none⟩) n c, .pointer (some ⟨bc, 0, none⟩), .pointer (some ⟨bc, 0, none⟩), .pointer (some ⟨bc, 1, none⟩), .int .i64 at',
      .slice (some ⟨b, off + at', none⟩) (n - at') (c - at'), .func (.func 61) #[] #[.pointer (some ⟨w.heap.size + 2 + 1, 0, none⟩), .pointer (some ⟨w.heap.size + 2, 0, none⟩)], .int .u32 (numAt (zs.drop at') m j), undef], defers := [] }) ?assign ?body ?done ?stop)
  case own =>
    intro s A B row hs hg hr
    have hr1 : ∀ r, row = some r → w.heap.size + 4 ≤ r := fun r e => by have := (hr r e).1; omega
    exact ⟨⟨hs.1.1, hs.1.2.1.kept hg (fun e => by have := hr1 _ e.symm; omega), hs.1.2.2.kept hg (fun e => by have := hr1 _ e.symm; omega)⟩, hs.2.grown hg hs.2.size (fun r e => by have := hr1 r e; omega)⟩
  case ownx =>
    intro c s A B row hs hg hr
    have hr1 : ∀ r, row = some r → w.heap.size + 4 ≤ r := fun r e => by have := (hr r e).1; omega
    exact ⟨⟨hs.1.1, hs.1.2.1, hs.1.2.2.1.kept hg (fun e => by have := hr1 _ e.symm; omega), hs.1.2.2.2.kept hg (fun e => by have := hr1 _ e.symm; omega)⟩, hs.2.grown hg hs.2.size (fun r e => by have := hr1 r e; omega)⟩
  case assign =>
    intro l j W K hK
    gi_wp2
    exact hK
  case body =>
    rintro l j W hl hl' hj ⟨⟨rfl, h1, h2⟩, hB⟩
    have g1 := h1.cell
    have g2 := h2.cell
    have g3 := h1.frozen
    have g4 := h2.frozen
    have H1 := Lib.hid h1
    have H2 := Lib.hid h2
    have HBB := Lib.hid hB
    clear h1 h2 hB
    gi_wp2
    exact ⟨(KF.setCell _ _ _ (by omega)).trans (KF.setCell _ _ _ (by omega)), ⟨rfl, rfl, (H1.out.set _).kept (grownBy_setCell' _ _ _) (by simp), (H2.out.kept (grownBy_setCell' _ _ _) (by simp)).set _⟩, (HBB.out.setCell (p := ⟨w.heap.size, 0, none⟩) (Nat.le_refl _) _).setCell (p := ⟨w.heap.size + 1, 0, none⟩) (by simp) _⟩
  case done =>
    rintro D W hD ⟨⟨h1, _⟩, _⟩ hK
    omega
  case stop =>
    rintro D c j W hD hj ⟨⟨rfl, rfl, h1, h2⟩, hB⟩ hK
    gi_wp2
    refine ⟨by simp, .inl ⟨_, _, rfl, run_takeDeferred hK, ?_⟩⟩
    have h5 := cell_kept h1.cell (grownBy_putObj' _ D (.deferred none)) (fun r e => by cases e; exact ⟨_, hK, rfl⟩)
    have h6 := cell_kept h2.cell (grownBy_putObj' _ D (.deferred none)) (fun r e => by cases e; exact ⟨_, hK, rfl⟩)
    refine ⟨.tuple #[.int .u32 (numAt (zs.drop at') m 0), .bool true], ?_, ?_, hB.grown (grownBy_putObj' W D (.deferred none)) hB.size (fun r e => by cases e; omega)⟩
    · simp [results, Tryd.f47, go_sem, h5, h6]
    · simp [numAt]
end

theorem numB_yes {n p : Nat} {k : Int} (h : numB n p k = true) : ∃ m : Nat, k = m ∧ rightB m = true ∧ p + m ≤ n := by
  unfold numB at h
  simp only [Bool.and_eq_true, decide_eq_true_eq] at h
  have := right_cases h.1
  exact ⟨k.toNat, by omega, by rw [Int.toNat_of_nonneg (by omega)]; exact h.1, by omega⟩

/-- Peek: the next number, or none -/
theorem peek_any (bc : Nat) (a : Option Addr) (n c at' : Nat) (k : Int) (zs : List Int) (w : World) (h : Cur w bc a n c at' zs) :
    Calls Tryd.prog 47 #[.pointer (some ⟨bc, 0, none⟩), .int .i64 k] w fun e w' => e = .returned (.tuple #[.int .u32 (numN zs n at' k), .bool (numB n at' k)]) ∧ Below w.heap.size w w' := by
  unfold numN
  cases hb : numB n at' k with
  | false => simpa using peek_no bc a n c at' k zs w h hb
  | true =>
    obtain ⟨m, rfl, h1, h2⟩ := numB_yes hb
    simpa using peek_yes bc a n c at' m zs w h h1 h2

/-- where a cursor stands behind a number -/
def numA (n p : Nat) (k : Int) : Nat := if numB n p k = true then p + k.toNat else p

/-- Number: the next number, or none; the cursor stands behind it -/
theorem number_any (bc : Nat) (a : Option Addr) (n c at' : Nat) (k : Int) (zs : List Int) (w : World) (h : Cur w bc a n c at' zs) :
    Calls Tryd.prog 35 #[.pointer (some ⟨bc, 0, none⟩), .int .i64 k] w fun e w' => e = .returned (.tuple #[.int .u32 (numN zs n at' k), .bool (numB n at' k)]) ∧ Cur w' bc a n c (numA n at' k) zs ∧ But bc w w' := by
  have HC := Lib.hid h
  clear h
  unfold numA
  cases hb : numB n at' k with
  | false =>
    go_enter Tryd.func35, Tryd.ntmps35
    go_wp2_with (go_at_call 47; refine (peek_any _ _ _ _ _ _ _ _ HC.out).mono ?_; rintro e w1 ⟨rfl, hb1⟩; rw [hb]; have HB := Lib.hid hb1; clear hb1)
    go_ret2
    exact ⟨rfl, by simpa using HC.out.below HB.out, But.of_below HB.out⟩
  | true =>
    obtain ⟨m, rfl, h1, h2⟩ := numB_yes hb
    have hlt := HC.out.lt
    go_enter Tryd.func35, Tryd.ntmps35
    go_wp2_with (go_at_call 47; refine (peek_any _ _ _ _ _ _ _ _ HC.out).mono ?_; rintro e w1 ⟨rfl, hb1⟩; rw [hb]; have HB := Lib.hid hb1; have HC1 := Lib.hid (HC.out.below hb1); have g1 := HC1.out.at; have g2 := HC1.out.frozen; have g3 := HC1.out.size; clear hb1)
    go_ret2
    exact ⟨rfl, by simpa [World.drewN] using HC1.out.moved 0 h2, (But.of_below HB.out).trans (But.set bc 1 _ _)⟩

end Go.Proofs.YtpccbnlbonjklaaDoor.Wr

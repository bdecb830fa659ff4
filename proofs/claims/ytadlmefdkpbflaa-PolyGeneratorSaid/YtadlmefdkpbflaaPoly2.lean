/- poly.Degree, over slices.Backward. -/
import Derived.Test.YtadlmefdkpbflaaRange
import Derived.Test.YtadlmefdkpbflaaPoly1
import Derived.Laws.BitsAllLaws
namespace Go.Proofs.Ytadlmefdkpbflaa
open Go.RowKit Go.Shelf

theorem own_mono {β : Type} {B B' : Nat} {I : β → World → Prop} (h : OwnFrom B I) (hb : B ≤ B') : OwnFrom B' I := fun s W W' row hs hg hr => h s W W' row hs hg (fun r e => ⟨Nat.le_trans hb (hr r e).1, (hr r e).2⟩)
theorem and_one {z : Int} (h0 : 0 ≤ z) (h1 : z < 256) : bits .and .u8 z 1 = z % 2 := by
  rw [u8_and _ _ h0 h1 (by omega) (by omega)]
  have : z.toNat &&& (1 : Int).toNat = z.toNat % 2 := Nat.and_one_is_mod _
  rw [this]; omega

section
attribute [local go_sem] Oper.semAt_some

set_option maxRecDepth 100000 in
set_option maxHeartbeats 2000000 in
theorem back1_in (n : Nat) (l Bs b off len cap : Nat) (a : Option Addr) (ha : a = some ⟨b, off, none⟩ ∨ len ≤ 0) (zs : List Int) (hlen : len ≤ cap) (hcap : cap ≤ 9223372036854775807)
    (J Jx : Nat → World → Prop)
    (hY : ∀ k W, k < len → J k W → YieldAt Fence.wide (n - 1) Try.prog l #[.int .i64 ((len - 1 - k : Nat) : Int), .int .u8 (nth zs (len - 1 - k))] W fun e W' =>
      (e = .returned (.bool true) ∧ J (k + 1) W' ∧ SameA (fun x => x = Bs ∨ x = b) W W') ∨ (e = .returned (.bool false) ∧ Jx k W'))
    (W : World) (hBs : W.cell? ⟨Bs, 0, none⟩ = some (.slice a len cap)) (hcs : ∀ j, j < len → W.cell? ⟨b, off + j, none⟩ = some (.int .u8 (nth zs j))) (h0 : J 0 W) :
    CallsIn Fence.wide n Try.prog 34 #[.func (.yield l) #[] #[], .pointer (some ⟨Bs, 0, none⟩)] W fun e W' => (∃ v, e = .returned v) ∧
      (J len W' ∨ ∃ k, k < len ∧ Jx k W') := by
  have HC := Lib.hid hcs
  clear hcs
  refine callsIn_of_wp Try.func34 rfl trivial ?_ rfl
  simp only [Try.ntmps34, List.size_toArray, List.length_cons, List.length_nil, Nat.reduceAdd, Nat.reduceSub, Array.replicate_succ, Array.replicate_zero, List.push_toArray, List.append_toArray, List.nil_append, List.cons_append]
  gi_wp2
  gi_loopw [3] (fun i wr => ∃ k : Nat, k ≤ len ∧ i = .int .i64 ((len : Int) - 1 - (k : Int)) ∧ J k wr ∧ SameA (fun x => x = Bs ∨ x = b) W wr)
    (fun i _ => (intOf i + 1).toNat)
  case atStart => exact ⟨0, Nat.zero_le _, by simp, h0, SameA.refl _ _⟩
  case round =>
    obtain ⟨k, hk, rfl, hJs, hnx⟩ := hrel
    have hs1 : wr.cell? ⟨Bs, 0, none⟩ = some (.slice a len cap) := hnx.cell (p := ⟨Bs, 0, none⟩) (.inl rfl) hBs
    by_cases hlt : k < len
    · obtain rfl : a = some ⟨b, off, none⟩ := by rcases ha with h | h; exact h; exact absurd h (by omega)
      clear ha
      obtain ⟨s, hs, hs2⟩ : ∃ s : Nat, (len : Int) - 1 - (k : Int) = s ∧ len - 1 - k = s := ⟨len - 1 - k, by omega, rfl⟩
      have hsl : s < len := by omega
      have hc1 : wr.cell? ⟨b, off + s, none⟩ = some (.int .u8 (nth zs s)) := hnx.cell (p := ⟨b, off + s, none⟩) (.inr rfl) (HC.out s hsl)
      obtain ⟨fn, tmps, assign, body, hy, hR⟩ := hY k wr hlt hJs
      rw [hs2] at hy
      rw [hs]
      have HS := Lib.hid hs
      clear hs hs2
      gi_wp2
      refine ⟨(fun h => by simp [Fence.wide] at h), ?_⟩
      refine hR.mono ?_
      rintro e W3 (⟨rfl, hJ3, hk3⟩ | ⟨rfl, hJx3⟩)
      · gi_wp2
        go_roundw
        case rel => exact ⟨k + 1, by omega, by have := HS.out; go_num, hJ3, hnx.trans hk3⟩
        case measure => simp [intOf]
      · gi_wp2
        refine bodyPost_ret (results_none rfl _ _ _) rfl ?_
        exact ⟨⟨_, rfl⟩, .inr ⟨k, hlt, hJx3⟩⟩
    · obtain rfl : k = len := by omega
      gi_wp2
      go_end0
      exact ⟨⟨_, rfl⟩, .inl hJs⟩

theorem back_in (n : Nat) (a : Option Addr) (len cap : Nat) (w : World) :
    CallsIn Fence.wide n Try.prog 30 #[.slice a len cap] w fun e w' => e = .returned (.func (.func 34) #[] #[.pointer (some ⟨w.heap.size, 0, none⟩)]) ∧ w' = w.alloc (.cells #[.slice a len cap] 24) := by
  refine callsIn_of_wp Try.func30 rfl trivial ?_ rfl
  simp only [Try.ntmps30, List.size_toArray, List.length_cons, List.length_nil, Nat.reduceAdd, Nat.reduceSub, Array.replicate_succ, Array.replicate_zero, List.push_toArray, List.append_toArray, List.nil_append, List.cons_append]
  gi_wp2
  go_ret
  exact ⟨rfl, rfl⟩

theorem back_seq (n : Nat) (Bs b off len cap : Nat) (a : Option Addr) (ha : a = some ⟨b, off, none⟩ ∨ len ≤ 0) (zs : List Int) (hlen : len ≤ cap) (hcap : cap ≤ 9223372036854775807) (w : World)
    (hBs : w.cell? ⟨Bs, 0, none⟩ = some (.slice a len cap)) (hcs : ∀ j, j < len → b < w.heap.size ∧ w.cell? ⟨b, off + j, none⟩ = some (.int .u8 (nth zs j))) :
    SeqN [] n Try.prog 34 #[.pointer (some ⟨Bs, 0, none⟩)] (fun k => #[.int .i64 ((len - 1 - k : Nat) : Int), .int .u8 (nth zs (len - 1 - k))]) (fun x => x = Bs ∨ x = b) len w := by
  intro l J Jx W hW hl hJ hJx hY h0
  refine back1_in n l Bs b off len cap a ha zs hlen hcap J Jx (fun k W1 hk hJ1 => (hY k W1 hk hJ1).mono fun e W' h => ?_) W ((hW.cell (p := ⟨Bs, 0, none⟩) (lt_of_cell hBs)).trans hBs)
    (fun j hj => (hW.cell (p := ⟨b, off + j, none⟩) (hcs j hj).1).trans (hcs j hj).2) h0
  rcases h.2 with ⟨h5, h6, h7⟩ | h5
  · exact .inl ⟨h5, h6, h7⟩
  · exact .inr h5

theorem toN_zero_of {zs : List Int} (h : ∀ i, i < zs.length → nth zs i % 2 = 0) : toN zs = 0 := by
  apply Nat.eq_of_testBit_eq
  intro i
  rw [testBit_toN, Nat.zero_testBit]
  by_cases hi : i < zs.length
  · rw [h i hi]; rfl
  · rw [nth_ge (by omega)]; rfl
theorem sz_of_last {zs : List Int} {k : Nat} (hk : k < zs.length) (h : ∀ i, i < k → nth zs (zs.length - 1 - i) % 2 = 0) (h1 : nth zs (zs.length - 1 - k) % 2 = 1) : sz (toN zs) = zs.length - k := by
  rw [show zs.length - k = (zs.length - 1 - k) + 1 by omega]
  refine sz_of_top ?_ (by rw [testBit_toN, h1]; rfl)
  apply Nat.lt_pow_two_of_testBit
  intro i hi
  rw [testBit_toN]
  by_cases hl : i < zs.length
  · have := h (zs.length - 1 - i) (by omega)
    rw [show zs.length - 1 - (zs.length - 1 - i) = i by omega] at this
    rw [this]; rfl
  · rw [nth_ge (by omega)]; rfl

set_option maxRecDepth 100000 in
set_option maxHeartbeats 4000000 in
theorem degree_any (a : Option Addr) (n c : Nat) (zs : List Int) (w : World) (hx : Ints .u8 w a n c zs) (hB : Byt zs) :
    Calls Try.prog 18 #[.slice a n c] w fun e w' => e = .returned (.int .i64 ((sz (toN zs) : Int) - 1)) ∧ Below w.heap.size w w' := by
  have hcc := hx.cap
  have hl := hx.len
  have HL := Lib.hid hl
  obtain ⟨b, off, ha, hbw, hcs⟩ : ∃ b off, (a = some ⟨b, off, none⟩ ∨ n ≤ 0) ∧ b < (w.alloc (.cells #[.int .i64 0] 3)).heap.size ∧ ∀ j, j < n → b < w.heap.size ∧ w.cell? ⟨b, off + j, none⟩ = some (.int .u8 (nth zs j)) := by
    rcases hx.cells with ⟨h1, h2⟩ | ⟨b, off, h1, h2, h3, h4⟩
    · exact ⟨w.heap.size, 0, .inr (by omega), by simp, fun j hj => by omega⟩
    · exact ⟨b, off, .inl h1, by simp; omega, fun j hj => ⟨h2, h4 j hj⟩⟩
  have HCS := Lib.hid hcs
  have HB := Lib.hid hB
  have HA := Lib.hid ha
  clear hx hl hcs hB ha
  refine (callsIn_wide (n := 9)).1 ?_
  refine callsIn_of_wp_marks Try.func18 rfl trivial ?_ rfl
  simp only [Try.ntmps18, List.size_toArray, List.length_cons, List.length_nil, Nat.reduceAdd, Nat.reduceSub, Array.replicate_succ, Array.replicate_zero, List.push_toArray, List.append_toArray, List.nil_append, List.cons_append]
  refine wpIn_wide.2 ?_
  go_wp2_with (go_at_call 30; refine (callsIn_wide.1 (back_in 0 _ _ _ _)).mono ?_; rintro e w' ⟨rfl, rfl⟩)
  have d1 := (Boxed.new w 3 (.int .i64 0)).alloc (.cells #[.slice a n c] 24)
  have d2 := Boxed.new (w.alloc (.cells #[.int .i64 0] 3)) 24 (.slice a n c)
  rw [World.size_alloc] at d2
  have hB0 : Below w.heap.size w ((w.alloc (.cells #[.int .i64 0] 3)).alloc (.cells #[.slice a n c] 24)) := ((Below.refl _ w).alloc (Nat.le_refl _) _).alloc (by simp) _
  have hsz : ((w.alloc (.cells #[.int .i64 0] 3)).alloc (.cells #[.slice a n c] 24)).heap.size = w.heap.size + 2 := by simp
  obtain ⟨W2, hW2⟩ : ∃ W2, ((w.alloc (.cells #[.int .i64 0] 3)).alloc (.cells #[.slice a n c] 24)) = W2 := ⟨_, rfl⟩
  rw [hW2] at d1 d2 hB0 hsz ⊢
  clear hW2
  have hcs2 : ∀ j, j < n → b < W2.heap.size ∧ W2.cell? ⟨b, off + j, none⟩ = some (.int .u8 (nth zs j)) := fun j hj => ⟨by have := (HCS.out j hj).1; omega, (hB0.cell (p := ⟨b, off + j, none⟩) (HCS.out j hj).1).trans (HCS.out j hj).2⟩
  refine wpIn_wide.1 (wp_rangeN (n := 9) (gf := 34) (lb := #[.pointer (some ⟨w.heap.size + 1, 0, none⟩)]) rfl (enters_of Try.func34 (by kernel_rfl) rfl)
    (back_seq 8 (w.heap.size + 1) b off n c a HA.out zs hcc.1 hcc.2 W2 d2.cell hcs2) (Below.refl _ _)
    (by rintro x (rfl | rfl) <;> (simp at hbw; omega)) (fun _ => rfl)
    (fun k W => ((∀ i, i < k → nth zs (n - 1 - i) % 2 = 0) ∧ Boxed W w.heap.size 3 (.int .i64 0)) ∧ Below w.heap.size w W)
    (fun cd k W => (cd = .ret ∧ (∀ i, i < k → nth zs (n - 1 - i) % 2 = 0) ∧ nth zs (n - 1 - k) % 2 = 1 ∧ Boxed W w.heap.size 3 (.int .i64 ((n - 1 - k : Nat) : Int))) ∧ Below w.heap.size w W)
    ?own ?ownx ⟨⟨fun i hi => absurd hi (by omega), d1⟩, hB0⟩ (fun k => { tmps := #[.slice a n c, undef, .pointer (some ⟨w.heap.size, 0, none⟩), .int .i64 ((n - 1 - k : Nat) : Int), .int .u8 (nth zs (n - 1 - k)), .slice a n c, .func (.func 34) #[] #[.pointer (some ⟨w.heap.size + 1, 0, none⟩)],
      .int .i64 ((n - 1 - k : Nat) : Int), .int .u8 (nth zs (n - 1 - k)), undef, undef, undef, undef], defers := [] }) ?assign ?body ?done ?stop)
  case own =>
    intro s A B row hs hg hr
    have hr1 : ∀ r, row = some r → w.heap.size + 2 ≤ r := fun r e => by have := (hr r e).1; omega
    exact ⟨⟨hs.1.1, hs.1.2.kept hg (fun e => by have := hr1 _ e.symm; omega)⟩, hs.2.grown hg hs.2.size (fun r e => by have := hr1 r e; omega)⟩
  case ownx =>
    intro cd s A B row hs hg hr
    have hr1 : ∀ r, row = some r → w.heap.size + 2 ≤ r := fun r e => by have := (hr r e).1; omega
    exact ⟨⟨hs.1.1, hs.1.2.1, hs.1.2.2.1, hs.1.2.2.2.kept hg (fun e => by have := hr1 _ e.symm; omega)⟩, hs.2.grown hg hs.2.size (fun r e => by have := hr1 r e; omega)⟩
  case assign =>
    intro l k W K hK
    gi_wp2
    exact hK
  case body =>
    rintro l k W hl hl' hk ⟨⟨hev, h1⟩, hBW⟩
    have g1 := h1.cell
    have g3 := h1.frozen
    have H1 := Lib.hid h1
    have HBW := Lib.hid hBW
    have HE := Lib.hid hev
    have hz := HB.out.nth (n - 1 - k)
    obtain ⟨s, hs⟩ : ∃ s, s = n - 1 - k := ⟨_, rfl⟩
    rw [← hs] at hz ⊢
    have HS := Lib.hid hs
    clear h1 hBW hev hs
    have hand := and_one hz.1 hz.2
    rcases mod2 (nth zs s) with hm | hm
    · have HM := Lib.hid hm
      rw [hm] at hand
      clear hm
      gi_wp2
      refine ⟨KF.refl _ _ _, SameA.refl _ _, ⟨fun i hi => ?_, H1.out⟩, HBW.out⟩
      by_cases e : i = k
      · rw [e, ← HS.out]; exact HM.out
      · exact HE.out i (by omega)
    · have HM := Lib.hid hm
      rw [hm] at hand
      clear hm
      gi_wp2
      exact ⟨KF.setCell _ _ _ (by omega), ⟨by first | rfl | trivial, HE.out, by rw [← HS.out]; exact HM.out, by rw [← HS.out]; exact H1.out.set _⟩, HBW.out.setCell (p := ⟨w.heap.size, 0, none⟩) (Nat.le_refl _) _⟩
  case done =>
    rintro D W hD ⟨⟨hev, h1⟩, hBW⟩ hK
    have g1 := h1.cell
    have g3 := h1.frozen
    have hz0 : sz (toN zs) = 0 := by
      rw [toN_zero_of (fun i hi => by have := hev (n - 1 - i) (by rw [HL.out] at hi; omega); rwa [show n - 1 - (n - 1 - i) = i by rw [HL.out] at hi; omega] at this)]; rfl
    have hK' := (KeepsOthers.setCell W ⟨w.heap.size, 0, none⟩ (.int .i64 (-1))).same D _ hK rfl
    have h5 := cell_kept (h1.set (.int .i64 (-1))).cell (grownBy_putObj' _ D (.deferred none)) (fun r e => by cases e; exact ⟨_, hK', rfl⟩)
    have hb5 := (hBW.setCell (p := ⟨w.heap.size, 0, none⟩) (Nat.le_refl _) (.int .i64 (-1))).grown (grownBy_putObj' (W.setCell ⟨w.heap.size, 0, none⟩ (.int .i64 (-1))) D (.deferred none)) (Nat.le_trans hBW.size (by simp [World.setCell])) (fun r e => by cases e; omega)
    have H5 := Lib.hid h5
    have HB5 := Lib.hid hb5
    have HK' := Lib.hid hK'
    have HZ0 := Lib.hid hz0
    clear h5 hb5 hK' h1 hBW hev hz0
    go_wp2
    refine ⟨by simp, .inl ⟨_, _, rfl, run_takeDeferred HK'.out, ?_⟩⟩
    refine ⟨.int .i64 (-1), ?_, ret_int (by rw [HZ0.out]; rfl), HB5.out⟩
    have h5 := H5.out
    simp [results, Try.f18, go_sem, h5]
  case stop =>
    rintro D cd k W hD hk ⟨⟨rfl, hev, hm, h1⟩, hBW⟩ hK
    have hz0 : sz (toN zs) = n - k := by
      have := sz_of_last (zs := zs) (k := k) (by rw [HL.out]; exact hk) (fun i hi => by rw [HL.out]; exact hev i hi) (by rw [HL.out]; exact hm)
      rw [HL.out] at this; exact this
    gi_wp2
    refine ⟨by simp, .inl ⟨_, _, rfl, run_takeDeferred hK, ?_⟩⟩
    have h5 := cell_kept h1.cell (grownBy_putObj' _ D (.deferred none)) (fun r e => by cases e; exact ⟨_, hK, rfl⟩)
    refine ⟨.int .i64 ((n - 1 - k : Nat) : Int), ?_, ret_int (by rw [hz0]; omega), hBW.grown (grownBy_putObj' W D (.deferred none)) hBW.size (fun r e => by cases e; omega)⟩
    simp [results, Try.f18, go_sem, h5]
end

end Go.Proofs.Ytadlmefdkpbflaa

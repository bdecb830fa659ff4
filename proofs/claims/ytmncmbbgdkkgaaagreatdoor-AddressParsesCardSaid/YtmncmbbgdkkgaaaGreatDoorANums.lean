/- wire.numbers: the iterator over the numbers in bytes. -/
import Derived.Test.YtmncmbbgdkkgaaaGreatDoorAChunk
import Derived.Test.YtmncmbbgdkkgaaaGreatDoorAWire2
import Derived.Laws.BitsAllLaws
namespace Go.Proofs.YtmncmbbgdkkgaaaGreatDoor
set_option maxRecDepth 100000
open Go.RowKit Go.Shelf
attribute [local go_sem] Oper.semAt_some

/-- the j-th number of k bytes -/
def numAt (zs : List Int) (k j : Nat) : Int := num ((zs.drop (j * k)).take k)

/-- wire.numbers: both are boxed; the function value captures the boxes -/
theorem numbers_in (n : Nat) (a : Option Addr) (len cap : Nat) (k : Int) (w : World) :
    CallsIn Fence.wide n Tryz.prog 50 #[.int .i64 k, .slice a len cap] w fun e w' =>
      e = .returned (.func (.func 71) #[] #[.pointer (some ⟨w.heap.size + 1, 0, none⟩), .pointer (some ⟨w.heap.size, 0, none⟩)]) ∧
      w' = (w.alloc (.cells #[.int .i64 k] 3)).alloc (.cells #[.slice a len cap] 23) := by
  refine callsIn_of_wp Tryz.func50 rfl trivial ?_ rfl
  simp only [Tryz.ntmps50, List.size_toArray, List.length_cons, List.length_nil, Nat.reduceAdd, Nat.reduceSub, Array.replicate_succ, Array.replicate_zero, List.push_toArray, List.append_toArray, List.nil_append, List.cons_append]
  gi_wp2
  go_ret
  exact ⟨rfl, rfl⟩

theorem or_byte {x z : Int} (h1 : 0 ≤ x) (h2 : x ≤ 16777215) (h3 : 0 ≤ z) (h4 : z < 256) : bits .or .u32 (x * 256) z = x * 256 + z := by
  rw [u32_or _ _ (by omega) (by omega) h3 (by omega)]
  have e1 : (x * 256).toNat = x.toNat <<< 8 := by rw [Nat.shiftLeft_eq]; omega
  rw [e1, ← Nat.shiftLeft_add_eq_or_of_lt (by omega : z.toNat < 2 ^ 8), Nat.shiftLeft_eq]
  omega

theorem chunk_bd {len k j : Nat} (hk : 1 ≤ k) (hj : j < chunks len k) : j * k < len := by
  have h1 := (chunks_bd (len := len) hk).2
  have h2 : (j + 1) * k ≤ chunks len k * k := Nat.mul_le_mul_right k hj
  rw [Nat.add_mul] at h2; omega
theorem div_le_chunks (len k : Nat) (hk : 1 ≤ k) : len / k ≤ chunks len k := Nat.div_le_div_right (by omega)
theorem full_bd {len k j : Nat} (hj : j < len / k) : j * k + k ≤ len := by
  have h1 : (j + 1) * k ≤ len / k * k := Nat.mul_le_mul_right k hj
  have h2 := Nat.div_mul_le_self len k
  rw [Nat.add_mul] at h1; omega
theorem part_bd {len k j : Nat} (hk : 1 ≤ k) (hj : j = len / k) : len < j * k + k := by
  subst hj
  have h1 := Nat.div_add_mod len k
  have h2 := Nat.mod_lt len (show 0 < k by omega)
  rw [Nat.mul_comm] at h1; omega

set_option maxRecDepth 100000 in
set_option maxHeartbeats 4000000 in
theorem numbers_seq (n : Nat) (hn : 4 ≤ n) (Bb Bk : Nat) (a : Option Addr) (len cap k : Nat) (zs : List Int) (hk : 1 ≤ k) (hk2 : k ≤ 4) (b off : Nat) (ha : a = some ⟨b, off, none⟩ ∨ len ≤ 0) (w : World)
    (hx : Ints .u8 w a len cap zs) (hB : Byt zs) (hbw : b < w.heap.size) (hl40 : len ≤ 1099511627776)
    (hcs : ∀ j, j < len → b < w.heap.size ∧ w.cell? ⟨b, off + j, none⟩ = some (.int .u8 (nth zs j)))
    (hBb : w.cell? ⟨Bb, 0, none⟩ = some (.slice a len cap)) (hBk : w.cell? ⟨Bk, 0, none⟩ = some (.int .i64 k)) :
    SeqN [103, 23, 3] n Tryz.prog 71 #[.pointer (some ⟨Bb, 0, none⟩), .pointer (some ⟨Bk, 0, none⟩)] (fun j => #[.int .u32 (numAt zs k j)]) (fun x => x = Bb ∨ x = Bk ∨ x = b) (len / k) w := by
  intro l J Jx W hW hlW hJ hJx hY h0
  have h1 := (hW.cell (p := ⟨Bb, 0, none⟩) (lt_of_cell hBb)).trans hBb
  have h2 := (hW.cell (p := ⟨Bk, 0, none⟩) (lt_of_cell hBk)).trans hBk
  have h3 : ∀ j, j < len → b < W.heap.size ∧ W.cell? ⟨b, off + j, none⟩ = some (.int .u8 (nth zs j)) := fun j hj =>
    ⟨Nat.lt_of_lt_of_le (hcs j hj).1 hW.size, (hW.cell (p := ⟨b, off + j, none⟩) (hcs j hj).1).trans (hcs j hj).2⟩
  have hlb : Bb < W.heap.size := lt_of_cell h1
  have hlk : Bk < W.heap.size := lt_of_cell h2
  have hlw : b < W.heap.size := Nat.lt_of_lt_of_le hbw hW.size
  have H3 := Lib.hid h3
  have HB := Lib.hid hB
  have HL := Lib.hid hx.len
  have hcc := hx.cap
  have HCS := Lib.hid hcs
  have HW := Lib.hid hW
  clear h3 hB hx hcs hW hBb hBk
  refine callsIn_of_wp_marks Tryz.func71 rfl trivial ?_ rfl
  simp only [Tryz.ntmps71, List.size_toArray, List.length_cons, List.length_nil, Nat.reduceAdd, Nat.reduceSub, Array.replicate_succ, Array.replicate_zero, List.push_toArray, List.append_toArray, List.nil_append, List.cons_append]
  gi_wp2_with fail
  refine ⟨trivial, (fun h => by simp [Fence.wide] at h), ?_⟩
  refine (chunk_in (n - 1) _ _ _ _ hk _).mono ?_
  rintro e w' ⟨rfl, rfl⟩
  gi_wp2
  have b1 : Boxed (W.alloc (.cells #[.func (.yield l) #[] #[]] 103)) W.heap.size 103 (.func (.yield l) #[] #[]) := Boxed.new _ _ _
  have b2 := Boxed.new (W.alloc (.cells #[.func (.yield l) #[] #[]] 103)) 23 (.slice a len cap)
  have b3 := Boxed.new ((W.alloc (.cells #[.func (.yield l) #[] #[]] 103)).alloc (.cells #[.slice a len cap] 23)) 3 (.int .i64 k)
  obtain ⟨W3, hW3⟩ : ∃ W3, ((W.alloc (.cells #[.func (.yield l) #[] #[]] 103)).alloc (.cells #[.slice a len cap] 23)).alloc (.cells #[.int .i64 k] 3) = W3 := ⟨_, rfl⟩
  have b1' : Boxed W3 W.heap.size 103 (.func (.yield l) #[] #[]) := by rw [← hW3]; exact (b1.alloc _).alloc _
  have b2' : Boxed W3 (W.heap.size + 1) 23 (.slice a len cap) := by rw [← hW3]; rw [World.size_alloc] at b2; exact b2.alloc _
  have b3' : Boxed W3 (W.heap.size + 1 + 1) 3 (.int .i64 k) := by rw [← hW3]; rw [World.size_alloc, World.size_alloc] at b3; exact b3
  have hs3 : W3.heap.size = W.heap.size + 3 := by rw [← hW3]; simp
  have hg3 : Below W.heap.size W W3 := by rw [← hW3]; exact (((Below.refl _ W).alloc (Nat.le_refl _) _).alloc (by simp) _).alloc (by simp; omega) _
  have hJ3 : J 0 W3 := by rw [← hW3]; exact hJ.alloc _ (hJ.alloc _ (hJ.alloc _ h0))
  rw [hW3]
  clear b1 b2 b3
  refine wp_rangeN (n := n) (gf := 100) (lb := #[.pointer (some ⟨W.heap.size + 1, 0, none⟩), .pointer (some ⟨W.heap.size + 1 + 1, 0, none⟩)]) rfl (enters_of Tryz.func100 (by kernel_rfl) rfl)
    (chunk_seq [103, 23, 3] (n - 1) (by omega) (W.heap.size + 1) (W.heap.size + 1 + 1) b off len cap k a (ha.imp_right (fun h => by omega)) hk hk2 hcc.1 hl40 W3 b2'.cell b3'.cell) (Below.refl _ _)
    (by rintro x (rfl | rfl) <;> omega) (fun _ => rfl)
    (fun j W' => (j ≤ len / k ∧ Boxed W' W.heap.size 103 (.func (.yield l) #[] #[]) ∧ Boxed W' (W.heap.size + 1) 23 (.slice a len cap) ∧ Boxed W' (W.heap.size + 1 + 1) 3 (.int .i64 k)) ∧ J j W' ∧ SameA (fun x => x = Bb ∨ x = Bk ∨ x = b) W W')
    (fun c j W' => c = .ret ∧ ((j = len / k ∧ J (len / k) W') ∨ (j < len / k ∧ Jx j W')))
    ?own ?ownx ⟨⟨Nat.zero_le _, b1', b2', b3'⟩, hJ3, SameA.of_below hg3 (by rintro x (rfl | rfl | rfl) <;> omega)⟩
    (fun j => { tmps := #[.func (.yield l) #[] #[], .pointer (some ⟨Bb, 0, none⟩), .pointer (some ⟨Bk, 0, none⟩), .pointer (some ⟨W.heap.size, 0, none⟩), chunkV b off len k j, undef, undef, undef, .slice a len cap, .int .i64 k, .func (.func 100) #[] #[.pointer (some ⟨W.heap.size + 1, 0, none⟩), .pointer (some ⟨W.heap.size + 1 + 1, 0, none⟩)], chunkV b off len k j,
      undef, undef, undef, undef, undef, undef, undef, undef, undef, undef, undef, undef, undef, undef, undef, undef, undef, undef, undef, undef, undef, undef], defers := [] }) ?assign ?body ?done ?stop
  case own =>
    intro s A B row hs hg hr
    have hr1 : ∀ r, row = some r → W.heap.size + 3 ≤ r := fun r e => by have := (hr r e).1; omega
    exact ⟨⟨hs.1.1, hs.1.2.1.kept hg (fun e => by have := hr1 _ e.symm; omega), hs.1.2.2.1.kept hg (fun e => by have := hr1 _ e.symm; omega), hs.1.2.2.2.kept hg (fun e => by have := hr1 _ e.symm; omega)⟩,
      hJ s A B row hs.2.1 hg (fun r e => ⟨by have := hr1 r e; omega, (hr r e).2⟩), hs.2.2.trans (SameA.grown hg (fun r e hA => by have := hr1 r e; rcases hA with h | h | h <;> omega))⟩
  case ownx =>
    intro c s A B row hs hg hr
    have hr1 : ∀ r, row = some r → l + 1 ≤ r ∧ ∃ o : Obj, A.heap[r]? = some o ∧ o.isCells = false := fun r e => ⟨by have := (hr r e).1; omega, (hr r e).2⟩
    exact ⟨hs.1, hs.2.imp (fun h => ⟨h.1, hJ _ A B row h.2 hg hr1⟩) (fun h => ⟨h.1, hJx _ A B row h.2 hg hr1⟩)⟩
  case assign =>
    intro l2 j W' K hK
    gi_wp2
    exact hK
  case body =>
    rintro l2 j W' hl hl' hj ⟨⟨hjN, c1, c2, c3⟩, hJj, hSA⟩
    have hp0 := chunk_bd hk hj
    obtain ⟨p, hp⟩ : ∃ p, p = j * k := ⟨_, rfl⟩
    obtain ⟨m, hm0, hm1, hm2, hm3⟩ : ∃ m : Nat, m = min k (len - p) ∧ 1 ≤ m ∧ m ≤ k ∧ p + m ≤ len := ⟨_, rfl, by omega, by omega, by omega⟩
    have hcv : chunkV b off len k j = .slice (some ⟨b, off + p, none⟩) m m := by unfold chunkV; rw [← hp, ← hm0]
    have hnum : p + k ≤ len → numAt zs k j = num ((zs.drop p).take k) := fun _ => by unfold numAt; rw [← hp]
    have hcase : (j < len / k ∧ m = k) ∨ (j = len / k ∧ m < k) := by
      rcases Nat.lt_or_ge j (len / k) with h | h
      · have := full_bd h; exact .inl ⟨h, by omega⟩
      · have := part_bd hk (Nat.le_antisymm hjN h); exact .inr ⟨by omega, by omega⟩
    have hC : ∀ i, i < m → W'.cell? ⟨b, off + p + i, none⟩ = some (.int .u8 (nth zs (p + i))) := fun i hi => by
      have := (H3.out (p + i) (by omega)).2
      rw [← Nat.add_assoc] at this
      exact hSA.cell (p := ⟨b, off + p + i, none⟩) (.inr (.inr rfl)) this
    have HC := Lib.hid hC
    have HN := Lib.hid hnum
    have HK := Lib.hid hcase
    have hk3 : W'.cell? ⟨Bk, 0, none⟩ = some (.int .i64 k) := hSA.cell (p := ⟨Bk, 0, none⟩) (.inr (.inl rfl)) h2
    have hc1 := c1.cell
    have C1 := Lib.hid c1
    have C2 := Lib.hid c2
    have C3 := Lib.hid c3
    have HP := Lib.hid hp
    have HJN := Lib.hid hjN
    have HJ := Lib.hid hj
    clear hC hnum hcase c1 c2 c3 hp hm0 hjN hj hp0
    rw [hcv]
    gi_wp2
    gi_loop [5, 14] (fun x i => ∃ q : Nat, q ≤ m ∧ i = .int .i64 q ∧ x = .int .u32 (num ((zs.drop p).take q))) (fun _ i => m - (intOf i).toNat)
    case atStart => exact ⟨0, Nat.zero_le _, rfl, rfl⟩
    case round =>
      obtain ⟨q, hq, rfl, rfl⟩ := hrel
      by_cases hlt : q < m
      · have hcq := HC.out q hlt
        have hsm := num_small (m := q) (zs := (zs.drop p).take q) (by rw [List.length_take, List.length_drop, HL.out]; omega) (by omega) ((HB.out.drop _).take _)
        have hz := HB.out.nth (p + q)
        have hst : Hid ((zs.drop p).take (q + 1) = (zs.drop p).take q ++ [nth zs (p + q)]) := by
          unfold Hid
          rw [take_succ_nth (by rw [List.length_drop, HL.out]; omega)]
          congr 2
          unfold nth; rw [List.getD_eq_getElem?_getD, List.getD_eq_getElem?_getD, List.getElem?_drop]
        gi_wp2
        go_round
        case rel => exact ⟨q + 1, by omega, by go_num, by rw [hst.out, num_snoc, or_byte hsm.1 hsm.2 hz.1 hz.2]⟩
        case measure => simp [intOf]; omega
      · obtain rfl : q = m := by omega
        rcases HK.out with ⟨hjl, hqk⟩ | ⟨hjl, hqk⟩
        · obtain ⟨fn, tmps, assign, body, hy, hR⟩ := yieldAt_wide (l' := l2) (n - 1 - 1 - 1) (hY j W' hjl hJj)
          rw [HN.out (by omega)] at hy
          have HJL := Lib.hid hjl
          clear hjl
          subst hqk
          gi_wp2
          refine ⟨(fun h => by simp [Fence.wide] at h), ?_⟩
          refine hR.mono ?_
          have hw2 : W.heap.size + 1 < W'.heap.size := C2.out.lt
          have hw3 : W.heap.size + 1 + 1 < W'.heap.size := C3.out.lt
          rintro e W4 ⟨hKF, (⟨rfl, hJ4, hSA4⟩ | ⟨rfl, hJx4⟩)⟩
          · have d1 : Boxed W4 W.heap.size 103 (.func (.yield l) #[] #[]) := hKF.same _ _ (by omega) C1.out rfl
            have d2 : Boxed W4 (W.heap.size + 1) 23 (.slice a len cap) := hKF.same _ _ (by omega) C2.out rfl
            have d3 : Boxed W4 (W.heap.size + 1 + 1) 3 (.int .i64 q) := hKF.same _ _ (by omega) C3.out rfl
            have D1 := Lib.hid d1
            have D2 := Lib.hid d2
            have D3 := Lib.hid d3
            clear d1 d2 d3
            gi_wp2
            refine ⟨hKF.mono (by omega), ⟨hKF.size, ?_⟩, ⟨by have := HJL.out; omega, D1.out, D2.out, D3.out⟩, hJ4, hSA.trans hSA4⟩
            rintro x (rfl | rfl) _
            · exact (D2.out).trans (C2.out).symm
            · exact (D3.out).trans (C3.out).symm
          · gi_wp2
            exact ⟨hKF.mono (by omega), by first | rfl | trivial, .inr ⟨HJL.out, hJx4⟩⟩
        · have HJL := Lib.hid hjl
          clear hjl
          gi_wp2
          refine ⟨fun _ h => (by cases h), ?_⟩
          gi_wp2
          exact ⟨KF.refl _ _ _, by first | rfl | trivial, .inl ⟨HJL.out, by rw [← HJL.out]; exact hJj⟩⟩
  case done =>
    rintro D W' hD ⟨⟨hjN, _⟩, hJj, hSA⟩ hK
    have he : chunks len k = len / k := Nat.le_antisymm hjN (div_le_chunks len k hk)
    rw [he] at hJj
    gi_wp2
    refine ⟨by simp, .inl ⟨_, _, rfl, run_takeDeferred hK, ?_⟩⟩
    exact ⟨_, results_none rfl _ _ _, ⟨_, rfl⟩, .inl (hJ.putObj _ hJj (by omega) hK rfl)⟩
  case stop =>
    rintro D c j W' hD hj ⟨rfl, h⟩ hK
    gi_wp2
    refine ⟨by simp, .inl ⟨_, _, rfl, run_takeDeferred hK, ?_⟩⟩
    refine ⟨_, results_none rfl _ _ _, ⟨_, rfl⟩, ?_⟩
    rcases h with ⟨_, h⟩ | ⟨h1, h⟩
    · exact .inl (hJ.putObj _ h (by omega) hK rfl)
    · exact .inr ⟨j, h1, hJx.putObj _ h (by omega) hK rfl⟩

end Go.Proofs.YtmncmbbgdkkgaaaGreatDoor

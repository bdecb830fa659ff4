/- slices.Chunk over bytes. -/
import Derived.Test.YtmncmbbgdkkgaaaGreatDoorRange
import Derived.BigRegionIn
namespace Go.Proofs.YtmncmbbgdkkgaaaGreatDoor
set_option maxRecDepth 100000
open Go.RowKit Go.Shelf
attribute [local go_sem] Oper.semAt_some

/-- the j-th chunk of k of the len cells at off -/
def chunkV (b off len k j : Nat) : Value := .slice (some ⟨b, off + j * k, none⟩) (min k (len - j * k)) (min k (len - j * k))

set_option maxRecDepth 100000 in
set_option maxHeartbeats 2000000 in
theorem chunk1_in (n : Nat) (hn : 1 ≤ n) (l Bs Bk b off len cap k N : Nat) (hk : 1 ≤ k) (hk2 : k ≤ 4) (hlen : len ≤ cap) (hl40 : len ≤ 1099511627776) (hN1 : len ≤ N * k) (hN2 : N * k < len + k)
    (J Jx : Nat → World → Prop)
    (hY : ∀ j W, j < N → J j W → YieldAt Fence.wide (n - 1) Tryz.prog l #[chunkV b off len k j] W fun e W' =>
      (e = .returned (.bool true) ∧ J (j + 1) W' ∧ SameA (fun x => x = Bs ∨ x = Bk) W W') ∨ (e = .returned (.bool false) ∧ Jx j W'))
    (W : World) (hBs : W.cell? ⟨Bs, 0, none⟩ = some (.slice (some ⟨b, off, none⟩) len cap)) (hBk : W.cell? ⟨Bk, 0, none⟩ = some (.int .i64 k)) (h0 : J 0 W)
    (hJd : OwnFrom W.heap.size J) :
    CallsIn Fence.wide n Tryz.prog 100 #[.func (.yield l) #[] #[], .pointer (some ⟨Bs, 0, none⟩), .pointer (some ⟨Bk, 0, none⟩)] W fun e W' => (∃ v, e = .returned v) ∧
      (J N W' ∨ ∃ j, j < N ∧ Jx j W') := by
  refine callsIn_of_wp Tryz.func100 rfl trivial ?_ rfl
  simp only [Tryz.ntmps100, List.size_toArray, List.length_cons, List.length_nil, Nat.reduceAdd, Nat.reduceSub, Array.replicate_succ, Array.replicate_zero, List.push_toArray, List.append_toArray, List.nil_append, List.cons_append]
  gi_wp2
  gi_loopw [4] (fun i wr => ∃ j : Nat, j ≤ N ∧ i = .int .i64 ((j * k : Nat) : Int) ∧ J j wr ∧ SameA (fun x => x = Bs ∨ x = Bk) W wr)
    (fun i _ => len + 4 - (intOf i).toNat)
  case atStart => exact ⟨0, Nat.zero_le _, by simp, h0, SameA.refl _ _⟩
  case round =>
    obtain ⟨j, hj, rfl, hJs, hnx⟩ := hrel
    have hs1 : wr.cell? ⟨Bs, 0, none⟩ = some (.slice (some ⟨b, off, none⟩) len cap) := hnx.cell (p := ⟨Bs, 0, none⟩) (.inl rfl) hBs
    have hs2 : wr.cell? ⟨Bk, 0, none⟩ = some (.int .i64 k) := hnx.cell (p := ⟨Bk, 0, none⟩) (.inr rfl) hBk
    have hadd : (j + 1) * k = j * k + k := by rw [Nat.add_mul, Nat.one_mul]
    obtain ⟨p, hp⟩ : ∃ p, p = j * k := ⟨_, rfl⟩
    rw [← hp] at hadd ⊢
    by_cases hlt : p < len
    · have hjN : j < N := by
        rcases Nat.lt_or_ge j N with h | h
        · exact h
        · have := Nat.mul_le_mul_right k h; omega
      have HP := Lib.hid hp
      have HA := Lib.hid hadd
      clear hp hadd
      have hmm : ∃ m : Nat, m = min k (len - p) ∧ 1 ≤ m ∧ m ≤ k ∧ p + m ≤ len := ⟨_, rfl, by omega, by omega, by omega⟩
      obtain ⟨m, hm0, hm1, hm2, hm3⟩ := hmm
      obtain ⟨fn, tmps, assign, body, hy, hR⟩ := hY j wr.drew hjN (hJd _ _ _ none hJs ⟨rfl, rfl, rfl, Nat.le_refl _, fun _ _ _ => rfl⟩ (fun r e => by cases e))
      have hv : chunkV b off len k j = .slice (some ⟨b, off + p, none⟩) m m := by
        unfold chunkV; rw [← HP.out, ← hm0]
      rw [hv] at hy
      clear hv
      have e1 : ((p : Int) + (m : Int)).toNat - p = m := by omega
      by_cases hlt2 : len - p < k
      · obtain rfl : m = len - p := by omega
        clear hm0
        gi_wp2
        gi_region
        gi_wp2
        refine hR.mono ?_
        rintro e W3 (⟨rfl, hJ3, hk3⟩ | ⟨rfl, hJx3⟩)
        · have hs3 : W3.cell? ⟨Bk, 0, none⟩ = some (.int .i64 k) := hk3.cell (p := ⟨Bk, 0, none⟩) (.inr rfl) hs2
          gi_wp2
          go_roundw
          case rel => exact ⟨j + 1, by omega, by rw [HA.out]; simp, hJ3, hnx.trans ((⟨Nat.le_refl _, fun _ _ _ => rfl⟩ : SameA _ wr wr.drew).trans hk3)⟩
          case measure => simp [intOf]; omega
        · gi_wp2
          refine bodyPost_ret (results_none rfl _ _ _) rfl ?_
          exact ⟨⟨_, rfl⟩, .inr ⟨j, hjN, hJx3⟩⟩
      · obtain rfl : k = m := by omega
        clear hm0
        gi_wp2
        gi_region
        gi_wp2
        refine hR.mono ?_
        rintro e W3 (⟨rfl, hJ3, hk3⟩ | ⟨rfl, hJx3⟩)
        · have hs3 : W3.cell? ⟨Bk, 0, none⟩ = some (.int .i64 k) := hk3.cell (p := ⟨Bk, 0, none⟩) (.inr rfl) hs2
          gi_wp2
          go_roundw
          case rel => exact ⟨j + 1, by omega, by rw [HA.out]; simp, hJ3, hnx.trans ((⟨Nat.le_refl _, fun _ _ _ => rfl⟩ : SameA _ wr wr.drew).trans hk3)⟩
          case measure => simp [intOf]; omega
        · gi_wp2
          refine bodyPost_ret (results_none rfl _ _ _) rfl ?_
          exact ⟨⟨_, rfl⟩, .inr ⟨j, hjN, hJx3⟩⟩
    · have hjN : j = N := by
        rcases Nat.lt_or_ge j N with h | h
        · have : (j + 1) * k ≤ N * k := Nat.mul_le_mul_right k h
          omega
        · omega
      subst hjN
      clear hp hadd
      gi_wp2
      go_end0
      exact ⟨⟨_, rfl⟩, .inl hJs⟩

set_option maxRecDepth 100000 in
theorem chunk1_nil (n : Nat) (l Bs Bk : Nat) (a : Option Addr) (cap : Nat) (J : World → Prop)
    (W : World) (hBs : W.cell? ⟨Bs, 0, none⟩ = some (.slice a 0 cap)) (h0 : J W) :
    CallsIn Fence.wide n Tryz.prog 100 #[.func (.yield l) #[] #[], .pointer (some ⟨Bs, 0, none⟩), .pointer (some ⟨Bk, 0, none⟩)] W fun e W' => (∃ v, e = .returned v) ∧ J W' := by
  refine callsIn_of_wp Tryz.func100 rfl trivial ?_ rfl
  simp only [Tryz.ntmps100, List.size_toArray, List.length_cons, List.length_nil, Nat.reduceAdd, Nat.reduceSub, Array.replicate_succ, Array.replicate_zero, List.push_toArray, List.append_toArray, List.nil_append, List.cons_append]
  gi_wp2
  gi_loopw [4] (fun i wr => i = .int .i64 0 ∧ J wr ∧ wr = W) (fun _ _ => 0)
  case atStart => exact ⟨rfl, h0, rfl⟩
  case round =>
    obtain ⟨rfl, hJs, rfl⟩ := hrel
    gi_wp2
    go_end0
    exact ⟨⟨_, rfl⟩, hJs⟩

/-- slices.Chunk: the slice and the size are boxed; the function value captures the boxes -/
theorem chunk_in (n : Nat) (a : Option Addr) (len cap k : Nat) (hk : 1 ≤ k) (w : World) :
    CallsIn Fence.wide n Tryz.prog 72 #[.slice a len cap, .int .i64 k] w fun e w' =>
      e = .returned (.func (.func 100) #[] #[.pointer (some ⟨w.heap.size, 0, none⟩), .pointer (some ⟨w.heap.size + 1, 0, none⟩)]) ∧
      w' = (w.alloc (.cells #[.slice a len cap] 23)).alloc (.cells #[.int .i64 k] 3) := by
  refine callsIn_of_wp Tryz.func72 rfl trivial ?_ rfl
  simp only [Tryz.ntmps72, List.size_toArray, List.length_cons, List.length_nil, Nat.reduceAdd, Nat.reduceSub, Array.replicate_succ, Array.replicate_zero, List.push_toArray, List.append_toArray, List.nil_append, List.cons_append]
  gi_wp2
  go_ret
  exact ⟨rfl, rfl⟩

/-- the number of chunks -/
def chunks (len k : Nat) : Nat := (len + k - 1) / k
theorem chunks_bd {len k : Nat} (hk : 1 ≤ k) : len ≤ chunks len k * k ∧ chunks len k * k < len + k := by
  unfold chunks
  have h1 := Nat.div_add_mod (len + k - 1) k
  have h2 := Nat.mod_lt (len + k - 1) (show 0 < k by omega)
  rw [Nat.mul_comm] at h1
  omega

theorem own_mono {β : Type} {B B' : Nat} {I : β → World → Prop} (h : OwnFrom B I) (hb : B ≤ B') : OwnFrom B' I := fun s W W' row hs hg hr => h s W W' row hs hg (fun r e => ⟨Nat.le_trans hb (hr r e).1, (hr r e).2⟩)
theorem own_drew {β : Type} {B : Nat} {I : β → World → Prop} (h : OwnFrom B I) {s : β} {W : World} (hs : I s W) : I s W.drew := h s W _ none hs ⟨rfl, rfl, rfl, Nat.le_refl _, fun _ _ _ => rfl⟩ (fun r e => by cases e)
theorem own_drewN {β : Type} {B : Nat} {I : β → World → Prop} (h : OwnFrom B I) {s : β} {W : World} (q : Nat) (hs : I s W) : I s (W.drewN q) := h s W _ none hs ⟨rfl, rfl, rfl, Nat.le_refl _, fun _ _ _ => rfl⟩ (fun r e => by cases e)

theorem chunk_seq (T : List TypeId) (n : Nat) (hn : 1 ≤ n) (Bs Bk b off len cap k : Nat) (a : Option Addr) (ha : a = some ⟨b, off, none⟩ ∨ len = 0) (hk : 1 ≤ k) (hk2 : k ≤ 4) (hlen : len ≤ cap) (hl40 : len ≤ 1099511627776) (w : World)
    (hBs : w.cell? ⟨Bs, 0, none⟩ = some (.slice a len cap)) (hBk : w.cell? ⟨Bk, 0, none⟩ = some (.int .i64 k)) :
    SeqN T n Tryz.prog 100 #[.pointer (some ⟨Bs, 0, none⟩), .pointer (some ⟨Bk, 0, none⟩)] (fun j => #[chunkV b off len k j]) (fun x => x = Bs ∨ x = Bk) (chunks len k) w := by
  intro l J Jx W hW hl hJ hJx hY h0
  have h1 := (hW.cell (p := ⟨Bs, 0, none⟩) (lt_of_cell hBs)).trans hBs
  have h2 := (hW.cell (p := ⟨Bk, 0, none⟩) (lt_of_cell hBk)).trans hBk
  by_cases h3 : len = 0
  · subst h3
    have h4 : chunks 0 k = 0 := by unfold chunks; exact Nat.div_eq_of_lt (by omega)
    refine (chunk1_nil n l Bs Bk a cap (J 0) W h1 h0).mono fun e W' ⟨he, hj⟩ => ⟨he, .inl ?_⟩
    rw [h4]; exact hj
  · have ha' : a = some ⟨b, off, none⟩ := by rcases ha with h | h; exact h; exact absurd h h3
    subst ha'
    refine chunk1_in n hn l Bs Bk b off len cap k (chunks len k) hk hk2 hlen hl40 (chunks_bd hk).1 (chunks_bd hk).2 J Jx (fun j W1 hj hJ1 => (hY j W1 hj hJ1).mono fun e W' h => ?_) W h1 h2 h0 (own_mono hJ (by omega))
    rcases h.2 with ⟨h5, h6, h7⟩ | h5
    · exact .inl ⟨h5, h6, h7⟩
    · exact .inr h5

end Go.Proofs.YtmncmbbgdkkgaaaGreatDoor

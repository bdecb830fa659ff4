/- node.Walk over nodes without kids. -/
import Derived.Test.YtmncmbbgdkkgaaaGreatDoorAdR
namespace Go.Proofs.YtmncmbbgdkkgaaaGreatDoor
set_option maxRecDepth 100000
set_option linter.unusedVariables false
open Go.RowKit Go.Shelf
attribute [local go_sem] Oper.semAt_some

theorem yieldAt_n {m : Nat} (m' : Nat) {P : Program} {l : Nat} {args : Array Value} {W : World} {R : Ending → World → Prop} (h : YieldAt Fence.wide m P l args W R) : YieldAt Fence.wide m' P l args W R := by
  obtain ⟨fn, tmps, assign, body, hy, hR⟩ := h
  exact ⟨fn, tmps, assign, body, hy, hR.1, fun c cs _ => hR.2 c cs (room_wide _)⟩
theorem visit_nil (n : Nat) (k : Option Addr) (d : Nat) (D : Int) (Y V : Option Addr) (W : World) :
    CallsIn Fence.wide n Tryz.prog 58 #[.slice k 0 d, .int .i64 D, .pointer Y, .pointer V] W fun e W' => e = .returned (.bool true) ∧ W' = W := by
  refine callsIn_of_wp Tryz.func58 rfl trivial ?_ rfl
  simp only [Tryz.ntmps58, List.size_toArray, List.length_cons, List.length_nil, Nat.reduceAdd, Nat.reduceSub, Array.replicate_succ, Array.replicate_zero, List.push_toArray, List.append_toArray, List.nil_append, List.cons_append]
  gi_wp2
  gi_loopw [11] (fun i wr => i = .int .i64 0 ∧ wr = W) (fun _ _ => 0)
  case atStart => exact ⟨rfl, rfl⟩
  case round =>
    obtain ⟨rfl, rfl⟩ := hrel
    gi_wp2
    go_ret
    exact ⟨rfl, rfl⟩
set_option maxHeartbeats 4000000 in
theorem visit_all (n : Nat) (l Y V b N : Nat) (T : Nat → Int) (Sa : Nat → Option Addr) (Sn Sc : Nat → Nat) (K : Nat → Option Addr) (D : Nat → Nat) (hN : N ≤ 1000)
    (J Jx : Nat → World → Prop) (hJ : OwnFrom (l + 1) J) (W : World)
    (hY : ∀ k W1, k < N → J k W1 → YieldAt Fence.wide n Tryz.prog l #[.int .i64 1, .agg #[.int .u16 (T k), (.slice (Sa k) (Sn k) (Sc k)), .slice (K k) 0 (D k)]] W1 fun e W' =>
      KF [93, 94, 26] (l + 1) W1 W' ∧ ((e = .returned (.bool true) ∧ J (k + 1) W' ∧ SameA (fun x => x = b) W1 W') ∨ (e = .returned (.bool false) ∧ Jx k W')))
    (hlY : l + 1 ≤ Y) (hlV : l + 1 ≤ V) (hlW : l < W.heap.size)
    (bY : Boxed W Y 93 (.func (.yield l) #[] #[]))
    (bV : Boxed W V 94 (.func (.func 58) #[] #[.pointer (some ⟨Y, 0, none⟩), .pointer (some ⟨V, 0, none⟩)]))
    (hc : ∀ j, j < N → W.cell? ⟨b, j * 3, none⟩ = some (.int .u16 (T j)) ∧ W.cell? ⟨b, j * 3 + 1, none⟩ = some (.slice (Sa j) (Sn j) (Sc j)) ∧ W.cell? ⟨b, j * 3 + 2, none⟩ = some (.slice (K j) 0 (D j)))
    (h0 : J 0 W) :
    CallsIn Fence.wide n Tryz.prog 58 #[.slice (some ⟨b, 0, none⟩) N N, .int .i64 1, .pointer (some ⟨Y, 0, none⟩), .pointer (some ⟨V, 0, none⟩)] W fun e W' => (∃ v, e = .returned v) ∧ (J N W' ∨ ∃ k, k < N ∧ Jx k W') := by
  have HC := Lib.hid hc
  have HY := Lib.hid hY
  clear hc hY
  refine callsIn_of_wp Tryz.func58 rfl trivial ?_ rfl
  simp only [Tryz.ntmps58, List.size_toArray, List.length_cons, List.length_nil, Nat.reduceAdd, Nat.reduceSub, Array.replicate_succ, Array.replicate_zero, List.push_toArray, List.append_toArray, List.nil_append, List.cons_append]
  gi_wp2
  gi_loopw [11] (fun i wr => ∃ j : Nat, j ≤ N ∧ i = .int .i64 j ∧ J j wr ∧ SameA (fun x => x = b) W wr ∧ W.heap.size ≤ wr.heap.size ∧ Boxed wr Y 93 (.func (.yield l) #[] #[]) ∧ Boxed wr V 94 (.func (.func 58) #[] #[.pointer (some ⟨Y, 0, none⟩), .pointer (some ⟨V, 0, none⟩)])) (fun i _ => N - (intOf i).toNat)
  case atStart => exact ⟨0, Nat.zero_le _, rfl, h0, SameA.refl _ _, Nat.le_refl _, bY, bV⟩
  case round =>
    obtain ⟨j, hj, rfl, hJs, hsame, hsz, cY, cV⟩ := hrel
    by_cases hlt : j < N
    · obtain ⟨d0, d1, d2⟩ := HC.out j hlt
      have e0 := hsame.cell (p := ⟨b, j * 3, none⟩) rfl d0
      have e1 := hsame.cell (p := ⟨b, j * 3 + 1, none⟩) rfl d1
      have e2 := hsame.cell (p := ⟨b, j * 3 + 2, none⟩) rfl d2
      have y0 := cY.cell
      have v0 := cV.cell
      clear d0 d1 d2
      have hb0 : Below wr.heap.size wr (wr.alloc (.cells #[.int .u16 (T j), .slice (Sa j) (Sn j) (Sc j), .slice (K j) 0 (D j)] 26)) := (Below.refl _ _).alloc (Nat.le_refl _) _
      have HJ1 := Lib.hid (hJ.alloc (.cells #[.int .u16 (T j), .slice (Sa j) (Sn j) (Sc j), .slice (K j) 0 (D j)] 26) hJs)
      obtain ⟨fn, tmps, assign, body, hy, hR⟩ := yieldAt_n (n - 1) (HY.out j _ hlt HJ1.out)
      have hYl := cY.lt
      have hVl := cV.lt
      have y1 := (cY.alloc (.cells #[.int .u16 (T j), .slice (Sa j) (Sn j) (Sc j), .slice (K j) 0 (D j)] 26)).cell
      have v1 := (cV.alloc (.cells #[.int .u16 (T j), .slice (Sa j) (Sn j) (Sc j), .slice (K j) 0 (D j)] 26)).cell
      have hn0 : (wr.alloc (.cells #[.int .u16 (T j), .slice (Sa j) (Sn j) (Sc j), .slice (K j) 0 (D j)] 26)).heap[wr.heap.size]? = some (.cells #[.int .u16 (T j), .slice (Sa j) (Sn j) (Sc j), .slice (K j) 0 (D j)] 26 (0, 0)) := NdB.new wr _ _ _
      have HN0 := Lib.hid hn0
      have HY0 := Lib.hid (cY.alloc (.cells #[.int .u16 (T j), .slice (Sa j) (Sn j) (Sc j), .slice (K j) 0 (D j)] 26))
      have HV0 := Lib.hid (cV.alloc (.cells #[.int .u16 (T j), .slice (Sa j) (Sn j) (Sc j), .slice (K j) 0 (D j)] 26))
      have HB0 := Lib.hid hb0
      have HYY := Lib.hid HY.out
      clear hn0 hb0
      gi_wp2_with fail
      refine ⟨(fun h => by simp [Fence.wide] at h), ?_⟩
      refine hR.mono ?_
      rintro e W4 ⟨hKF, (⟨rfl, hJ4, hSA4⟩ | ⟨rfl, hJx4⟩)⟩
      · have n4 : NdB W4 wr.heap.size _ _ _ := hKF.same _ _ (by omega) HN0.out rfl
        have y4 : Boxed W4 Y _ _ := hKF.same _ _ (by omega) HY0.out rfl
        have v4 : Boxed W4 V _ _ := hKF.same _ _ (by omega) HV0.out rfl
        obtain ⟨m0, m1, m2⟩ := n4.cell
        have v5 := v4.cell
        have HSA := Lib.hid ((hsame.trans (SameA.of_below (n := wr.heap.size) HB0.out (by rintro x rfl; exact lt_of_cell (a := ⟨x, j * 3, none⟩) e0))).trans hSA4)
        have HJ4 := Lib.hid hJ4
        have HY4 := Lib.hid y4
        have HV4 := Lib.hid v4
        have hsz4 : W.heap.size ≤ W4.heap.size := Nat.le_trans (Nat.le_trans hsz HB0.out.size) hKF.size
        clear hSA4 hJ4 y4 v4 hKF hR hy y0 v0 y1 v1 e0 e1 e2 n4
        gi_wp2_with fail
        refine ⟨trivial, (fun h => by simp [Fence.wide] at h), ?_⟩
        refine (visit_nil (n - 1) (K j) (D j) _ _ _ _).mono ?_
        rintro e w' ⟨rfl, rfl⟩
        gi_wp2
        go_roundw
        case rel => exact ⟨j + 1, by omega, by go_num, HJ4.out, HSA.out, hsz4, HY4.out, HV4.out⟩
        case measure => simp [intOf]; omega
      · gi_wp2
        refine ⟨(fun _ h => by cases h), ?_⟩
        gi_wp2
        go_ret
        exact ⟨⟨_, rfl⟩, .inr ⟨j, hlt, hJx4⟩⟩
    · obtain rfl : N = j := by omega
      gi_wp2
      go_ret
      exact ⟨⟨_, rfl⟩, .inl hJs⟩
end Go.Proofs.YtmncmbbgdkkgaaaGreatDoor

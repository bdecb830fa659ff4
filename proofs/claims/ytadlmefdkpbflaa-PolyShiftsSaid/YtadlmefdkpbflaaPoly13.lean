/- The generator. -/
import Derived.Test.YtadlmefdkpbflaaPoly12
namespace Go.Proofs.Ytadlmefdkpbflaa
open Go.RowKit

def gens : List Nat := [32, 28, 27, 26, 25, 23, 22, 20, 19, 18, 14, 13, 11, 10, 9, 8, 6, 0]
def genAt (j : Nat) : Nat := (gens.take j).foldl (fun x e => x ^^^ (1 <<< e)) 0
def genE (j : Nat) : Nat := gens.getD j 0
theorem gen_index (w : World) (j : Nat) (h : j < 18) : Sem.run Try.prog (Instr.index 57 (Value.agg #[Value.int IntKind.i64 32, Value.int IntKind.i64 28, Value.int IntKind.i64 27, Value.int IntKind.i64 26, Value.int IntKind.i64 25, Value.int IntKind.i64 23, Value.int IntKind.i64 22, Value.int IntKind.i64 20, Value.int IntKind.i64 19, Value.int IntKind.i64 18, Value.int IntKind.i64 14, Value.int IntKind.i64 13, Value.int IntKind.i64 11, Value.int IntKind.i64 10, Value.int IntKind.i64 9, Value.int IntKind.i64 8, Value.int IntKind.i64 6, Value.int IntKind.i64 0]) (.int .i64 (j : Int))) w = .ok (.int .i64 (genE j : Int)) w := by
  have hc : j = 0 ∨ j = 1 ∨ j = 2 ∨ j = 3 ∨ j = 4 ∨ j = 5 ∨ j = 6 ∨ j = 7 ∨ j = 8 ∨ j = 9 ∨ j = 10 ∨ j = 11 ∨ j = 12 ∨ j = 13 ∨ j = 14 ∨ j = 15 ∨ j = 16 ∨ j = 17 := by omega
  rcases hc with rfl | rfl | rfl | rfl | rfl | rfl | rfl | rfl | rfl | rfl | rfl | rfl | rfl | rfl | rfl | rfl | rfl | rfl
  all_goals rfl
theorem genE_le (j : Nat) : genE j ≤ 32 := by
  by_cases h : j < 18
  · have hc : j = 0 ∨ j = 1 ∨ j = 2 ∨ j = 3 ∨ j = 4 ∨ j = 5 ∨ j = 6 ∨ j = 7 ∨ j = 8 ∨ j = 9 ∨ j = 10 ∨ j = 11 ∨ j = 12 ∨ j = 13 ∨ j = 14 ∨ j = 15 ∨ j = 16 ∨ j = 17 := by omega
    rcases hc with rfl | rfl | rfl | rfl | rfl | rfl | rfl | rfl | rfl | rfl | rfl | rfl | rfl | rfl | rfl | rfl | rfl | rfl
    all_goals decide
  · unfold genE; rw [List.getD_eq_getElem?_getD, List.getElem?_eq_none (by simp [gens]; omega)]; simp
theorem genAt_succ (j : Nat) (h : j < 18) : genAt (j + 1) = genAt j ^^^ (1 <<< genE j) := by
  have hc : j = 0 ∨ j = 1 ∨ j = 2 ∨ j = 3 ∨ j = 4 ∨ j = 5 ∨ j = 6 ∨ j = 7 ∨ j = 8 ∨ j = 9 ∨ j = 10 ∨ j = 11 ∨ j = 12 ∨ j = 13 ∨ j = 14 ∨ j = 15 ∨ j = 16 ∨ j = 17 := by omega
  rcases hc with rfl | rfl | rfl | rfl | rfl | rfl | rfl | rfl | rfl | rfl | rfl | rfl | rfl | rfl | rfl | rfl | rfl | rfl
  all_goals rfl
theorem genAt_sz (j : Nat) (h : j ≤ 18) : sz (genAt j) ≤ 33 := by
  have hc : j = 0 ∨ j = 1 ∨ j = 2 ∨ j = 3 ∨ j = 4 ∨ j = 5 ∨ j = 6 ∨ j = 7 ∨ j = 8 ∨ j = 9 ∨ j = 10 ∨ j = 11 ∨ j = 12 ∨ j = 13 ∨ j = 14 ∨ j = 15 ∨ j = 16 ∨ j = 17 ∨ j = 18 := by omega
  rcases hc with rfl | rfl | rfl | rfl | rfl | rfl | rfl | rfl | rfl | rfl | rfl | rfl | rfl | rfl | rfl | rfl | rfl | rfl | rfl
  all_goals decide +kernel
set_option maxHeartbeats 4000000 in
theorem generator_any (w : World) :
    Calls Try.prog 26 #[] w fun e w' => ∃ g, e = .returned (.slice (some ⟨g, 0, none⟩) (sz (genAt 18)) (sz (genAt 18))) ∧ w.heap.size ≤ g ∧ Blk w' g (ofN (genAt 18)) ∧ Below w.heap.size w w' := by
  go_enter Try.func26, Try.ntmps26
  go_wp2
  go_loopw [1, 5] (fun v i wr => ∃ j : Nat, j ≤ 18 ∧ i = .int .i64 j ∧ ∃ a c, v = .slice a (sz (genAt j)) c ∧ Ints .u8 wr a (sz (genAt j)) c (ofN (genAt j)) ∧ Below w.heap.size w wr ∧ (1 ≤ j → ∃ g, a = some ⟨g, 0, none⟩ ∧ c = sz (genAt j) ∧ w.heap.size ≤ g ∧ Blk wr g (ofN (genAt j)))) (fun _ i _ => 18 - (intOf i).toNat)
  case atStart => exact ⟨0, Nat.zero_le _, rfl, none, 0, rfl, Ints.nil _ _, Below.refl _ _, fun h => absurd h (by omega)⟩
  case round =>
    obtain ⟨j, hj, rfl, a, c, rfl, hI, hbw, hblk⟩ := hrel
    have HBLK := Lib.hid hblk
    clear hblk
    have HI := Lib.hid hI
    have HW := Lib.hid hbw
    clear hI hbw
    by_cases hlt : j < 18
    · have hle := genE_le j
      have hgs := genAt_sz j hj
      have hst := Lib.hid (genAt_succ j hlt)
      have HGI := Lib.hid (gen_index wr j hlt)
      go_wp2_with fail
      rw [HGI.out]
      obtain ⟨e, he⟩ : ∃ e, e = genE j := ⟨_, rfl⟩
      rw [← he] at hst hle ⊢
      have HK1 := Lib.hid (blk_one wr)
      clear he HGI
      go_wp2_with fail
      refine (shift_yes (some ⟨wr.heap.size, 0, none⟩) 1 1 e [1] _ (HK1.out.ints rfl (by omega)) (by intro z hz; simp at hz; omega) (by omega) (by omega)).mono ?_
      rintro e2 w3 ⟨g, rfl, hg, hk, hb⟩
      rw [show toN [1] = 1 from rfl] at hk ⊢
      have hsz : sz (1 <<< e) ≤ 33 := sz_le (by rw [Nat.one_shiftLeft]; exact Nat.pow_lt_pow_right (by omega) (by omega))
      have hbw3 := Lib.hid (((Below.refl _ wr).alloc (Nat.le_refl _) (.cells #[.int .u8 1] 5)).trans (hb.mono (show wr.heap.size ≤ (wr.heap.push _).size by rw [Array.size_push]; omega)))
      have HI3 := Lib.hid (HI.out.below hbw3.out)
      have HK3 := Lib.hid (hk.ints (n := sz (1 <<< e)) (ofN_length _) (by omega))
      have HW3 := Lib.hid (HW.out.trans (hbw3.out.mono HW.out.size))
      have hs3 := HW3.out.size
      have HP := Lib.hid (Parts.new w3 [⟨some ⟨g, 0, none⟩, sz (1 <<< e), sz (1 <<< e), ofN (1 <<< e)⟩] 24 1 rfl (by omega) (fun p hp => by
        simp only [List.mem_cons, List.not_mem_nil, or_false] at hp
        subst hp
        exact ⟨HK3.out, ofN_byt _⟩))
      have HI4 := Lib.hid (HI3.out.below ((Below.refl _ w3).alloc (Nat.le_refl _) (.cells #[.slice (some ⟨g, 0, none⟩) (sz (1 <<< e)) (sz (1 <<< e))] 24)))
      have HW4 := Lib.hid (HW3.out.alloc hs3 (.cells #[.slice (some ⟨g, 0, none⟩) (sz (1 <<< e)) (sz (1 <<< e))] 24))
      have hs4 : w.heap.size ≤ (w3.alloc (.cells #[.slice (some ⟨g, 0, none⟩) (sz (1 <<< e)) (sz (1 <<< e))] 24)).heap.size := HW4.out.size
      have HS4 := Lib.hid hs4
      obtain ⟨S, hS⟩ : ∃ S, S = sz (1 <<< e) := ⟨_, rfl⟩
      rw [← hS] at HP HI4 HW4 HS4 hsz ⊢
      clear hk hb hg hbw3 HK1 HI HW hs4 hS HK3 HI3 HW3
      go_wp2_with fail
      refine (add_any _ _ _ _ _ _ _ _ HI4.out (ofN_byt _) HP.out (by omega) (by show S ≤ _; omega)).mono ?_
      rintro e3 w5 ⟨g5, rfl, hg5, hk5, hb5⟩
      rw [toN_ofN, show toN (ofN (1 <<< e)) = 1 <<< e from toN_ofN _, ← hst.out] at hk5 ⊢
      have hgs2 := genAt_sz (j + 1) (by omega)
      have HI5 := Lib.hid (hk5.ints (n := sz (genAt (j + 1))) (ofN_length _) (by omega))
      have HW5 := Lib.hid (HW4.out.trans (hb5.mono HS4.out))
      have HK5 := Lib.hid hk5
      have hg6 : w.heap.size ≤ g5 := Nat.le_trans HS4.out hg5
      clear hk5 hb5 hg5 hst
      go_wp2
      go_roundw
      case rel => exact ⟨j + 1, by omega, by go_num, _, _, rfl, HI5.out, HW5.out, fun _ => ⟨g5, rfl, rfl, hg6, HK5.out⟩⟩
      case measure => simp [intOf]; omega
    · obtain rfl : j = 18 := by omega
      obtain ⟨g, rfl, rfl, hg, hk⟩ := HBLK.out (by omega)
      have HK := Lib.hid hk
      clear hk
      go_wp2
      go_ret
      exact ⟨g, rfl, hg, HK.out, HW.out⟩

theorem gen_set (j : Nat) (h : j < 18) : (bitsL (genAt j) 33).set (genE j) 1 = bitsL (genAt (j + 1)) 33 := by
  have hc : j = 0 ∨ j = 1 ∨ j = 2 ∨ j = 3 ∨ j = 4 ∨ j = 5 ∨ j = 6 ∨ j = 7 ∨ j = 8 ∨ j = 9 ∨ j = 10 ∨ j = 11 ∨ j = 12 ∨ j = 13 ∨ j = 14 ∨ j = 15 ∨ j = 16 ∨ j = 17 := by omega
  rcases hc with rfl | rfl | rfl | rfl | rfl | rfl | rfl | rfl | rfl | rfl | rfl | rfl | rfl | rfl | rfl | rfl | rfl | rfl
  all_goals decide +kernel
def gensZ : List Int := [32, 28, 27, 26, 25, 23, 22, 20, 19, 18, 14, 13, 11, 10, 9, 8, 6, 0]
theorem gensZ_nth (j : Nat) (h : j < 18) : nth gensZ j = (genE j : Int) := by
  have hc : j = 0 ∨ j = 1 ∨ j = 2 ∨ j = 3 ∨ j = 4 ∨ j = 5 ∨ j = 6 ∨ j = 7 ∨ j = 8 ∨ j = 9 ∨ j = 10 ∨ j = 11 ∨ j = 12 ∨ j = 13 ∨ j = 14 ∨ j = 15 ∨ j = 16 ∨ j = 17 := by omega
  rcases hc with rfl | rfl | rfl | rfl | rfl | rfl | rfl | rfl | rfl | rfl | rfl | rfl | rfl | rfl | rfl | rfl | rfl | rfl
  all_goals rfl
theorem powers_any (a : Option Addr) (c : Nat) (w : World) (hx : Ints .i64 w a 18 c gensZ) :
    Calls Try.prog 33 #[.slice a 18 c] w fun e w' => PolyR w w' e (genAt 18) := by
  obtain ⟨i0, hi, hz0, hz1, hz2⟩ := info_parts info_u8
  have hcc := hx.cap
  obtain ⟨b1, o1, ha, hcx⟩ := hx.loc
  obtain rfl : a = some ⟨b1, o1, none⟩ := by rcases ha with h | h; exact h; exact absurd h (by omega)
  have HC := Lib.hid hcx
  clear hx hcx ha
  go_enter Try.func33, Try.ntmps33
  go_wp2_with (at_make; refine wpList_make_full _ rfl _ _ 22 rfl w.heap.size 5 i0 (.int .u8 0) 1 Try.underlying22 hi hz0 hz1 .i64 .i64 _ _ 33 rfl rfl rfl rfl (by rw [hz2]; omega) (by unfold maxLen; omega) (Nat.le_refl _) ?_; intro w2 hown hgrow; rw [zeros_cells] at hown; have HBW := Lib.hid (below_grown hgrow rfl); have HK := Lib.hid (blk_of_own hown); have hs2 := hgrow.size; clear hown hgrow)
  go_loopw [4] (fun i wr => ∃ j : Nat, j ≤ 18 ∧ i = .int .i64 j ∧ Below w.heap.size w wr ∧ Blk wr w.heap.size (bitsL (genAt j) 33)) (fun i _ => 18 - (intOf i).toNat)
  case atStart => exact ⟨0, Nat.zero_le _, rfl, HBW.out, by rw [show bitsL (genAt 0) 33 = List.replicate 33 0 by decide +kernel]; exact HK.out⟩
  case round =>
    clear HBW HK
    obtain ⟨j, hj, rfl, hbw, hk⟩ := hrel
    have HW := Lib.hid hbw
    have HK := Lib.hid hk
    clear hbw hk
    by_cases hlt : j < 18
    · have hkb := (HC.out j hlt).1
      have h1 := (HW.out.cell (p := ⟨b1, o1 + j, none⟩) hkb).trans (HC.out j hlt).2
      rw [gensZ_nth j hlt] at h1
      have hle := genE_le j
      have hst := Lib.hid (gen_set j hlt)
      obtain ⟨e, he⟩ : ∃ e, e = genE j := ⟨_, rfl⟩
      rw [← he] at h1 hle hst
      have h2 := HK.out.cell (i := e) (by rw [bitsL_length]; omega)
      have h3 := HK.out.frozen e
      clear he
      go_wp2
      go_roundw
      case rel => exact ⟨j + 1, by omega, by go_num, HW.out.setCell (p := ⟨w.heap.size, e, none⟩) (Nat.le_refl _) _, by rw [← hst.out]; exact HK.out.set e 1⟩
      case measure => simp [intOf]; omega
    · obtain rfl : j = 18 := by omega
      have hT := Lib.hid (toN_bitsL (x := genAt 18) (n := 33) (by decide +kernel))
      have hsr := HW.out.size
      go_wp2_with (go_at_call 17; refine (refreduce_any _ _ _ _ _ (HK.out.ints (bitsL_length _ _) (by omega)) (bitsL_byt _ _) (by omega)).mono ?_; rintro e w4 ⟨a4, c4, rfl, hI4, hb4⟩; rw [hT.out] at hI4 ⊢; have HI4 := Lib.hid hI4; have HB4 := Lib.hid (HW.out.trans (hb4.mono hsr)); clear hI4 hb4)
      go_ret
      exact ⟨_, _, rfl, HI4.out, HB4.out⟩

theorem refgenerator_any (w : World) :
    Calls Try.prog 27 #[] w fun e w' => PolyR w w' e (genAt 18) := by
  have HI := Lib.hid (Ints.new .i64 w gensZ 3 18 rfl (by omega))
  go_enter Try.func27, Try.ntmps27
  go_wp2_with fail
  refine (powers_any _ _ _ HI.out).mono ?_
  rintro e w1 ⟨a4, c4, rfl, hI4, hb4⟩
  have HI4 := Lib.hid hI4
  have HB4 := Lib.hid (((Below.refl _ w).alloc (Nat.le_refl _) _).trans (hb4.mono (show w.heap.size ≤ (w.heap.push _).size by rw [Array.size_push]; omega)))
  clear hI4 hb4
  go_wp2
  go_ret
  exact ⟨_, _, rfl, HI4.out, HB4.out⟩

end Go.Proofs.Ytadlmefdkpbflaa

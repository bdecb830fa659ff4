/- The fixed results of layer 1. -/
import Derived.Test.YtoldkoeijgnflaaRefs2
import Derived.Test.YtoldkoeijgnflaaPeek
namespace Go.Proofs.Ytoldkoeijgnflaa
open Go.RowKit

theorem ints_own {k : IntKind} {w : World} {base : Nat} {e : TypeId} {a : Option Addr} {n c : Nat} {zs : List Int} (h : w.ownsRow base e 1 (.slice a n c) n (zs.map (Value.int k))) : Ints k w a n c zs := by
  obtain ⟨a', c', hv, hi⟩ := Ints.own h
  cases hv
  exact hi
theorem pz1 : putZ 2 [258, 3] = [1, 2, 0, 3] := by decide +kernel
theorem pz2 : putZ 3 [1] = [] := by decide +kernel
theorem nz1 : numsZ 2 [1, 2, 0, 3] = [258, 3] := by decide +kernel
theorem nn1 : numN [1, 2, 0, 3] 4 0 2 = 258 := by decide +kernel
theorem nb1 : numB 4 0 2 = true := by decide +kernel
theorem na1 : numA 4 0 2 = 2 := by decide +kernel
theorem nn2 : numN [1, 2, 0, 3] 4 2 1 = 0 := by decide +kernel
theorem nb2 : numB 4 2 1 = true := by decide +kernel
theorem byt1203 : Byt [1, 2, 0, 3] := fun z hz => by simp at hz; omega

set_option maxHeartbeats 4000000 in
theorem awake_any (w : World) : Calls Try.prog 7 #[] w fun e w' => e = .returned (.bool true) ∧ Below w.heap.size w w' := by
  go_enter Try.func7, Try.ntmps7
  go_wp2_with fail
  refine (put_any 2 _ 2 2 [258, 3] _ (Ints.at .u32 w _ [258, 3] _ 2 rfl rfl (by omega)) (by intro x hx; simp at hx; omega) (by omega)).mono ?_
  rintro e w1 ⟨a1, c1, rfl, hown, hb⟩
  rw [pz1] at hown
  simp only [pz1, List.length_cons, List.length_nil, Nat.zero_add, Nat.reduceAdd] at hown ⊢
  have HI := Lib.hid (ints_own hown)
  have HB := Lib.hid ((((Below.refl _ w).alloc (Nat.le_refl _) (.cells #[.int .u32 258, .int .u32 3] 32))).trans (hb.mono (by simp)))
  clear hown hb
  go_wp2_with fail
  refine (new_any _ _ _ _ _ HI.out byt1203 (by omega)).mono ?_
  rintro e w2 ⟨bc, a2, c2, rfl, hbc, hcur, hb, -⟩
  have HI2 := Lib.hid (HI.out.below hb)
  have HC2 := Lib.hid hcur
  have HB2 := Lib.hid (HB.out.trans (hb.mono HB.out.size))
  have hbw : w.heap.size ≤ bc := Nat.le_trans HB.out.size hbc
  have HA2 := Lib.hid (show ∀ x, a1 = some x → x.block ≠ bc from fun x hx => by
    obtain ⟨h1, h2, h3, h4, h5⟩ := HI.out
    obtain ⟨g, off, hg, hlt, _⟩ := h5 (by omega)
    rw [hg] at hx
    cases hx
    show g ≠ bc
    omega)
  clear hcur hb HI HB hbc
  go_wp2_with fail
  refine (number_any _ _ _ _ _ _ _ _ HC2.out).mono ?_
  rintro e w3 ⟨rfl, hcur, hbut⟩
  rw [na1] at hcur
  rw [nn1, nb1]
  have HI3 := Lib.hid (HI2.out.but hbut HA2.out)
  have HC3 := Lib.hid hcur
  have HB3 := Lib.hid (HB2.out.trans (hbut.below hbw HB2.out.size))
  clear hcur hbut HI2 HC2 HB2
  go_wp2_with fail
  refine (peek_any _ _ _ _ _ _ _ _ HC3.out).mono ?_
  rintro e w4 ⟨rfl, hb⟩
  rw [nn2, nb2]
  have HI4 := Lib.hid (HI3.out.below hb)
  have HC4 := Lib.hid (HC3.out.below hb)
  have HB4 := Lib.hid (HB3.out.trans (hb.mono HB3.out.size))
  clear hb HI3 HC3 HB3
  go_wp2_with fail
  refine (take_no _ _ _ _ _ _ _ _ HC4.out (by omega)).mono ?_
  rintro e w5 ⟨rfl, q, rfl⟩
  have HI5 := Lib.hid (HI4.out.below (below_drewN (Below.refl _ w4) q))
  have HC5 := Lib.hid (HC4.out.below (below_drewN (Below.refl _ w4) q))
  have HB5 := Lib.hid (below_drewN HB4.out q)
  obtain ⟨w5, hw5⟩ : ∃ w5, w4.drewN q = w5 := ⟨_, rfl⟩
  rw [hw5] at HI5 HC5 HB5 ⊢
  clear hw5 HI4 HC4 HB4 HA2
  go_wp2_with fail
  refine (same_any _ _ _ _ _ _ _ _ _ (HI5.out.below ((Below.refl _ _).alloc (Nat.le_refl _) _)) (Ints.at .u8 w5 _ [1, 2, 0, 3] _ 4 rfl rfl (by omega))).mono ?_
  rintro e w6 ⟨rfl, hb⟩
  rw [eqL_true rfl]
  have hb6 := (((Below.refl _ w5).alloc (Nat.le_refl _) (.cells #[.int .u8 1, .int .u8 2, .int .u8 0, .int .u8 3] 5))).trans (hb.mono (by simp))
  have HI6 := Lib.hid (HI5.out.below hb6)
  have HC6 := Lib.hid (HC5.out.below hb6)
  have HB6 := Lib.hid (HB5.out.trans (hb6.mono HB5.out.size))
  clear hb hb6 HI5 HC5 HB5
  go_wp2_with fail
  refine (numbers_any _ _ _ _ _ _ HI6.out byt1203 (by omega)).mono ?_
  rintro e w7 ⟨a7, c7, rfl, hi, hb⟩
  simp only [nz1, List.length_cons, List.length_nil, Nat.zero_add, Nat.reduceAdd] at hi ⊢
  have HN7 := Lib.hid hi
  have HC7 := Lib.hid (HC6.out.below hb)
  have HB7 := Lib.hid (HB6.out.trans (hb.mono HB6.out.size))
  clear hi hb HI6 HC6 HB6
  go_wp2_with fail
  refine (equal_any _ _ _ _ _ _ _ _ _ (HN7.out.below ((Below.refl _ _).alloc (Nat.le_refl _) _)) (Ints.at .u32 w7 _ [258, 3] _ 2 rfl rfl (by omega))).mono ?_
  rintro e w8 ⟨rfl, hb⟩
  rw [eqL_true rfl]
  have hb8 := (((Below.refl _ w7).alloc (Nat.le_refl _) (.cells #[.int .u32 258, .int .u32 3] 32))).trans (hb.mono (by simp))
  have HC8 := Lib.hid (HC7.out.below hb8)
  have HB8 := Lib.hid (HB7.out.trans (hb8.mono HB7.out.size))
  clear hb hb8 HN7 HC7 HB7
  go_wp2_with fail
  refine (at_any _ _ _ _ _ _ _ HC8.out).mono ?_
  rintro e w' ⟨rfl, rfl⟩
  go_wp2_with fail
  refine (left_any _ _ _ _ _ _ _ HC8.out).mono ?_
  rintro e w9 ⟨rfl, q2, rfl⟩
  have HB9 := Lib.hid (below_drewN HB8.out q2)
  obtain ⟨w9, hw9⟩ : ∃ w9, w8.drewN q2 = w9 := ⟨_, rfl⟩
  rw [hw9] at HB9 ⊢
  clear hw9 HC8 HB8
  go_wp2_with fail
  refine (put_any 3 _ 1 1 [1] _ (Ints.at .u32 w9 _ [1] _ 1 rfl rfl (by omega)) (by intro x hx; simp at hx; omega) (by omega)).mono ?_
  rintro e w10 ⟨a10, c10, rfl, _, hb⟩
  simp only [pz2, List.length_nil] at hb ⊢
  have HB10 := Lib.hid (HB9.out.trans (((((Below.refl _ w9).alloc (Nat.le_refl _) (.cells #[.int .u32 1] 32))).trans (hb.mono (by simp))).mono HB9.out.size))
  clear hb HB9
  go_wp2_with fail
  refine (left_nil _).mono ?_
  rintro e w' ⟨rfl, rfl⟩
  go_wp2
  go_ret
  exact ⟨rfl, HB10.out⟩

end Go.Proofs.Ytoldkoeijgnflaa

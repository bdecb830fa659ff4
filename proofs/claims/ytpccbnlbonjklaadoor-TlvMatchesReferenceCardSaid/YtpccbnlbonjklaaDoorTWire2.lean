/- The reference's Number. -/
import Derived.Test.YtpccbnlbonjklaaDoorTWire
namespace Go.Proofs.YtpccbnlbonjklaaDoor.Wr
open Go.RowKit

/-- the number that bytes are -/
def num (zs : List Int) : Int := zs.foldl (fun x z => x * 256 + z) 0
theorem num_snoc (zs : List Int) (z : Int) : num (zs ++ [z]) = num zs * 256 + z := by simp [num]
theorem num_bd : ∀ (m : Nat) (zs : List Int), zs.length = m → Byt zs → 0 ≤ num zs ∧ num zs < 256 ^ m := by
  intro m
  induction m with
  | zero =>
    intro zs h _
    obtain rfl : zs = [] := List.length_eq_zero_iff.1 h
    simp [num]
  | succ m ih =>
    intro zs h hb
    have hne : zs ≠ [] := fun e => by subst e; simp at h
    have hs := List.dropLast_concat_getLast hne
    rw [← hs, num_snoc]
    have h1 := ih zs.dropLast (by simp; omega) (fun z hz => hb z (List.dropLast_subset _ hz))
    have h2 := hb _ (List.getLast_mem hne)
    rw [Int.pow_succ]
    omega
theorem num_small {m : Nat} {zs : List Int} (h : zs.length = m) (hm : m ≤ 3) (hb : Byt zs) : 0 ≤ num zs ∧ num zs ≤ 16777215 := by
  have h1 := num_bd m zs h hb
  have h2 : m = 0 ∨ m = 1 ∨ m = 2 ∨ m = 3 := by omega
  rcases h2 with rfl | rfl | rfl | rfl <;> simp at h1 <;> omega

/-- whether there is a number of k bytes at p -/
def numB (n p : Nat) (k : Int) : Bool := rightB k && decide ((p : Int) + k ≤ n)
def numN (zs : List Int) (n p : Nat) (k : Int) : Int := if numB n p k = true then num ((zs.drop p).take k.toNat) else 0

set_option maxHeartbeats 4000000 in
theorem refnumber_yes (a : Option Addr) (n c : Nat) (zs : List Int) (p m : Nat) (w : World) (hx : Ints .u8 w a n c zs) (hb : Byt zs) (hp : p ≤ n) (hk : rightB m = true) (hm : p + m ≤ n) :
    Calls Tryd.prog 23 #[.slice a n c, .int .i64 p, .int .i64 m] w fun e w' => e = .returned (.tuple #[.int .u32 (num ((zs.drop p).take m)), .bool true]) ∧ w = w' := by
  have hm4 : 1 ≤ m ∧ m ≤ 4 := by have := right_cases hk; omega
  have hcc := hx.cap
  have HL := Lib.hid hx.len
  have HB := Lib.hid hb
  obtain ⟨b1, o1, ha, hcx⟩ := hx.loc
  have ha' : a = some ⟨b1, o1, none⟩ := by rcases ha with h | h; exact h; omega
  subst ha'
  have HC := Lib.hid hcx
  have d1 : decide ((n : Int) < (p : Int) + (m : Int)) = false := by simp; omega
  clear hx hcx hb ha
  go_enter Tryd.func23, Tryd.ntmps23
  go_wp2_with fail
  refine (refright_any _ _).mono ?_
  rintro e w' ⟨rfl, rfl⟩
  rw [hk]
  go_wp2
  go_loop [8, 9] (fun x i => ∃ j : Nat, j ≤ m ∧ i = .int .i64 j ∧ x = .int .u32 (num ((zs.drop p).take j))) (fun _ i => m - (intOf i).toNat)
  case atStart => exact ⟨0, Nat.zero_le _, rfl, rfl⟩
  case round =>
    obtain ⟨j, hj, rfl, rfl⟩ := hrel
    by_cases hlt : j < m
    · have h1 := (HC.out (p + j) (by omega)).2
      have hst : Hid ((zs.drop p).take (j + 1) = (zs.drop p).take j ++ [nth zs (p + j)]) := by
        unfold Hid
        rw [take_succ_nth (by rw [List.length_drop, HL.out]; omega)]
        congr 2
        unfold nth; rw [List.getD_eq_getElem?_getD, List.getD_eq_getElem?_getD, List.getElem?_drop]
      have hsm := num_small (m := j) (zs := (zs.drop p).take j) (by rw [List.length_take, List.length_drop, HL.out]; omega) (by omega) ((HB.out.drop _).take _)
      have hz := HB.out.nth (p + j)
      go_wp2
      go_round
      case rel => exact ⟨j + 1, by omega, by go_num, by rw [hst.out, num_snoc]⟩
      case measure => simp [intOf]; omega
    · obtain rfl : j = m := by omega
      go_wp2
      go_ret2
      exact ⟨rfl, rfl⟩

theorem refnumber_no (a : Option Addr) (n c : Nat) (p : Nat) (k : Int) (w : World) (hp : p ≤ n) (h : rightB k = false ∨ rightB k = true ∧ (n : Int) < (p : Int) + k ∧ n ≤ 1099511627776) :
    Calls Tryd.prog 23 #[.slice a n c, .int .i64 p, .int .i64 k] w fun e w' => e = .returned (.tuple #[.int .u32 0, .bool false]) ∧ w = w' := by
  rcases h with hk | ⟨hk, h1, h2⟩
  · go_enter Tryd.func23, Tryd.ntmps23
    go_wp2_with fail
    refine (refright_any _ _).mono ?_
    rintro e w' ⟨rfl, rfl⟩
    rw [hk]
    go_wp2
    go_ret2
    exact ⟨rfl, rfl⟩
  · have h3 := right_cases hk
    have h4 : 1 ≤ k ∧ k ≤ 4 := by omega
    clear h3
    go_enter Tryd.func23, Tryd.ntmps23
    go_wp2_with fail
    refine (refright_any _ _).mono ?_
    rintro e w' ⟨rfl, rfl⟩
    rw [hk]
    go_wp2
    go_ret2
    exact ⟨rfl, rfl⟩

end Go.Proofs.YtpccbnlbonjklaaDoor.Wr

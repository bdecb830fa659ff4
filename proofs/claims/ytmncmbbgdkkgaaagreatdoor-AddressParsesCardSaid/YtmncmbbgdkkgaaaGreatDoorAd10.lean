/- address.Name. -/
import Derived.Test.YtmncmbbgdkkgaaaGreatDoorAd9
import Derived.Laws.BytesArg
namespace Go.Proofs.YtmncmbbgdkkgaaaGreatDoor
set_option maxRecDepth 100000
set_option linter.unusedVariables false
open Go.RowKit

def strB (xs : List Int) : ByteArray := strOfNums xs
theorem conv_any (a : Option Addr) (n c : Nat) (xs : List Int) (w : World) (hx : Ints .u8 w a n c xs) : (convert 23 9 (.slice a n c)).run Tryz.prog w = .ok (.string (strB xs)) w := by
  rcases hx.cells with ⟨rfl, rfl⟩ | ⟨b, off, rfl, hlt, hn, hc⟩
  · cases a with
    | none => exact run_convert_bytes_nil w 23 5 Tryz.underlying23 Tryz.underlying5 0 c 9 Tryz.underlying9
    | some ad =>
      have hl : (loadCells ad 0).run Tryz.prog w = .ok ([] : List Value).toArray w := run_loadCells_list (P := Tryz.prog) w ad [] (fun j v hj => by simp at hj)
      rw [run_convert_bytes_string w 23 9 5 _ 0 c Tryz.underlying23 Tryz.underlying5 Tryz.underlying9, run_bytesToString w ad 0 c [] hl]
      rfl
  · exact run_convert_bytes_arg w 23 5 Tryz.underlying23 Tryz.underlying5 b off n c xs hx.len (fun i hi => by rw [hc i hi]; rfl) 9 Tryz.underlying9
def nmS (xs : List Int) : ByteArray := ⟨(Lib.trimSuffix (strB xs).data.toList [0]).toArray⟩
/-- whether a node is a host's name -/
def nameB (t : Int) (xs : List Int) (m : Nat) : Bool := hostB (nmS xs) && ((11 : Int) == t && eqL (numsB (nmS xs) ++ [0]) xs && decide (m = 0))
set_option maxHeartbeats 4000000 in
theorem name_any (t : Int) (a : Option Addr) (n c : Nat) (k : Option Addr) (m d : Nat) (xs : List Int) (w : World) (hx : Ints .u8 w a n c xs) (bx : Byt xs) :
    Calls Tryz.prog 11 #[ndV t a n c k m d] w fun e w' => e = .returned (.tuple #[.string (if nameB t xs m = true then nmS xs else ⟨#[]⟩), .bool (nameB t xs m)]) ∧ Below w.heap.size w w' := by
  have hsz : (strB xs).size ≤ 9223372036854775807 := by
    show (strOfNums xs).size ≤ _
    rw [strOfNums_size, hx.len]
    have := hx.cap
    omega
  have hts := fun W => Tryz.strings_TrimSuffix (strB xs) ⟨#[0]⟩ W hsz
  have HTS := Lib.hid hts
  have HB0 := Lib.hid ((Below.refl _ w).alloc (Nat.le_refl _) (.cells #[.int .u16 t, .slice a n c, .slice k m d] 26))
  have HN0 := Lib.hid (NdB.new w (.int .u16 t) (.slice a n c) (.slice k m d))
  have hx0 := hx.below HB0.out
  have hcv := conv_any a n c xs _ hx0
  have HX := Lib.hid hx0
  clear hx hx0 hts hsz
  rw [show ndV t a n c k m d = .agg #[.int .u16 t, .slice a n c, .slice k m d] from rfl]
  unfold nameB
  cases hh : hostB (nmS xs) with
  | false =>
    go_enter Tryz.func11, Tryz.ntmps11
    go_wp2_with fail
    refine (HTS.out _).mono ?_
    rintro e w1 ⟨rfl, rfl⟩
    go_wp2_with fail
    refine (host_no (nmS xs) _ hh).mono ?_
    rintro e w1 ⟨rfl, hb1⟩
    unfold zeroNode ndV
    have HW := Lib.hid ((HB0.out.trans (hb1.mono HB0.out.size)).alloc (Nat.le_trans HB0.out.size hb1.size) (.cells #[.int .u16 0, .slice none 0 0, .slice none 0 0] 26))
    clear hb1 hh
    go_wp2
    go_ret2
    exact ⟨rfl, HW.out⟩
  | true =>
    obtain ⟨R, hR⟩ : ∃ R, R = ((11 : Int) == t && eqL (numsB (nmS xs) ++ [0]) xs && decide (m = 0)) := ⟨_, rfl⟩
    rw [← hR, Bool.true_and]
    have HR := Lib.hid hR
    clear hR
    go_enter Tryz.func11, Tryz.ntmps11
    go_wp2_with fail
    refine (HTS.out _).mono ?_
    rintro e w1 ⟨rfl, rfl⟩
    go_wp2_with fail
    refine (host_yes (nmS xs) _ hh).mono ?_
    rintro e w1 ⟨a1, c1, rfl, hi1, hb1⟩
    unfold ndV
    have HN1 := Lib.hid (HN0.out.below hb1 (by simp))
    have HX1 := Lib.hid (HX.out.below hb1)
    have HI1 := Lib.hid hi1
    have HW := Lib.hid ((HB0.out.trans (hb1.mono HB0.out.size)).alloc (Nat.le_trans HB0.out.size hb1.size) (.cells #[.int .u16 11, .slice a1 ((nmS xs).size + 1) c1, .slice none 0 0] 26))
    have HA := Lib.hid ((Below.refl _ w1).alloc (Nat.le_refl _) (.cells #[.int .u16 11, .slice a1 ((nmS xs).size + 1) c1, .slice none 0 0] 26))
    have hlt : w.heap.size < w1.heap.size := HN1.out.lt
    obtain ⟨q0, q1, q2⟩ := HN1.out.cell
    have hby : Byt (numsB (nmS xs) ++ [0]) := (numsB_byt _).append (fun z hz => by simp at hz; omega)
    have HBY := Lib.hid hby
    clear hb1 hh hi1 hby
    obtain ⟨nm, hnm⟩ : ∃ nm, nm = nmS xs := ⟨_, rfl⟩
    go_wp2_with fail
    refine (nsame_any 11 t a1 a none k ((nmS xs).size + 1) c1 0 n c m d (numsB (nmS xs) ++ [0]) xs _ (HI1.out.below HA.out) (HX1.out.below HA.out) HBY.out bx).mono ?_
    rintro e w2 ⟨rfl, hb2⟩
    rw [← HR.out]
    have HW2 := Lib.hid (HW.out.trans (hb2.mono HW.out.size))
    clear hb2 q0 q1 q2
    cases R with
    | true =>
      go_wp2
      go_ret2
      exact ⟨rfl, HW2.out⟩
    | false =>
      go_wp2
      go_ret2
      exact ⟨rfl, HW2.out⟩
end Go.Proofs.YtmncmbbgdkkgaaaGreatDoor

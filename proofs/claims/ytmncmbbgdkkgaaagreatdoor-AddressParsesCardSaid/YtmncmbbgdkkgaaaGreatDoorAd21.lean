/- The walk of AddressHosts. -/
import Derived.Test.YtmncmbbgdkkgaaaGreatDoorAd20
namespace Go.Proofs.YtmncmbbgdkkgaaaGreatDoor
set_option maxRecDepth 100000
set_option linter.unusedVariables false
open Go.RowKit

theorem Ints.init {k : IntKind} {w : World} {a : Option Addr} {n c L : Nat} {zs : List Int} (h : Ints k w a n c zs) (hL : L ≤ n) : Ints k w a L c (zs.take L) := by
  obtain ⟨h1, h2, h3, h4, h5⟩ := h
  refine ⟨by simp at h1 ⊢; omega, by omega, h3, h4, fun h0 => ?_⟩
  obtain ⟨b, off, ha, hlt, hc⟩ := h5 (by omega)
  refine ⟨b, off, ha, hlt, fun j v hv => hc j v ?_⟩
  rw [List.map_take, List.getElem?_take] at hv
  split at hv
  · exact hv
  · cases hv
theorem strB_nums (s : ByteArray) : strB (numsB s) = s := by
  unfold strB numsB
  apply ByteArray.ext
  rw [← Array.toList_inj, strOfNums_data, List.map_map]
  conv => rhs; rw [← List.map_id s.data.toList]
  refine List.map_congr_left fun z _ => ?_
  simp
theorem trim_snoc (l : List UInt8) : Lib.trimSuffix (l ++ [0]) [0] = l := by
  unfold Lib.trimSuffix Lib.hasSuffix
  simp
theorem strB_append (xs ys : List Int) : strB (xs ++ ys) = ⟨((strB xs).data.toList ++ (strB ys).data.toList).toArray⟩ := by
  unfold strB
  apply ByteArray.ext
  rw [← Array.toList_inj, strOfNums_data, strOfNums_data, strOfNums_data, List.map_append]
theorem numsB_strB {xs : List Int} (h : Byt xs) : numsB (strB xs) = xs := by
  unfold numsB strB
  rw [strOfNums_data, List.map_map]
  conv => rhs; rw [← List.map_id xs]
  refine List.map_congr_left fun z hz => ?_
  have := h z hz
  show ((UInt8.ofNat z.toNat).toNat : Int) = z
  rw [UInt8.toNat_ofNat']
  omega
theorem strB_zero (s : ByteArray) : strB (numsB s ++ [0]) = s ++ (⟨#[0]⟩ : ByteArray) := by
  rw [strB_append, strB_nums, show (strB [0]).data.toList = [0] by decide +kernel]
  apply ByteArray.ext
  rw [← Array.toList_inj]
  simp
theorem nm_snoc (xs : List Int) : nmS (xs ++ [0]) = strB xs := by
  unfold nmS
  rw [strB_append, show (strB [0]).data.toList = [0] by decide +kernel]
  simp [trim_snoc]
/-- what a node's name is -/
theorem name_yes {t : Int} {ys : List Int} (h : Byt ys) : nameB t (ys ++ [0]) 0 = (refHostB (strB ys) && (11 : Int) == t) ∧ nmS (ys ++ [0]) = strB ys := by
  refine ⟨?_, nm_snoc ys⟩
  unfold nameB
  rw [nm_snoc, host_ref, numsB_strB h, eqL_true rfl]
  simp
theorem name_type {t : Int} {xs : List Int} {m : Nat} (h : (t == 11) = false) : nameB t xs m = false := by
  unfold nameB
  have : ((11 : Int) == t) = false := by rw [beq_eq_false_iff_ne] at h ⊢; exact fun e => h e.symm
  rw [this]; simp
theorem name_kids {t : Int} {xs : List Int} {m : Nat} (h : m ≠ 0) : nameB t xs m = false := by
  unfold nameB
  rw [decide_eq_false h]; simp
theorem name_end {t : Int} {xs : List Int} {m : Nat} (h : ∀ ys, xs ≠ ys ++ [0]) : nameB t xs m = false := by
  unfold nameB
  rw [eqL_false (fun e => h _ e.symm)]; simp
set_option maxHeartbeats 8000000 in
theorem walk_AddressHosts (s : ByteArray) (t : Int) (a : Option Addr) (n c : Nat) (k : Option Addr) (m d : Nat) (xs : List Int) (w : World) (hg : Glob w) (hx : Ints .u8 w a n c xs) (bx : Byt xs) (hk : Kids w 20 k m d) (hs : s.size ≤ 9223372036854775807) :
    Calls Tryz.prog 3 #[.string s, ndV t a n c k m d] w fun e w' => e = .returned (.bool true) ∧ Below w.heap.size w w' := by
  have hb0 : Below w.heap.size w (w.alloc (.cells #[.int .u16 t, .slice a n c, .slice k m d] 26)) := (Below.refl _ _).alloc (Nat.le_refl _) _
  have HN0 := Lib.hid (NdB.new w (.int .u16 t) (.slice a n c) (.slice k m d))
  have HX0 := Lib.hid (hx.below hb0)
  have HG0 := Lib.hid (hg.below hb0)
  have HK0 := Lib.hid (hk.below hb0)
  have HB0 := Lib.hid hb0
  have hcap := hx.cap
  clear hg hx hk hb0
  unfold ndV
  by_cases hl : s.size ≤ 500
  · have d0 : decide ((500 : Int) < (s.size : Int)) = false := by simp; omega
    go_enter Tryz.func3, Tryz.ntmps3
    go_wp2_with fail
    refine (awake_any _ HG0.out).mono ?_
    rintro e w1 ⟨rfl, hb⟩
    have HN1 := Lib.hid (HN0.out.below hb HN0.out.lt)
    have HX1 := Lib.hid (HX0.out.below hb)
    have HG1 := Lib.hid (HG0.out.below hb)
    have HK1 := Lib.hid (HK0.out.below hb)
    have HB1 := Lib.hid (HB0.out.trans (hb.mono HB0.out.size))
    clear hb HN0 HX0 HG0 HK0 HB0
    have q := HN1.out.cell
    obtain ⟨p0, p1, p2⟩ := q
    go_wp2_with fail
    have hb0 := (Below.refl w1.heap.size w1).alloc (Nat.le_refl _) (.cells #[.int .u16 t, .slice a n c, .slice k m d] 26)
    have hkk : Kids (w1.alloc (.cells #[.int .u16 t, .slice a n c, .slice k m d] 26)) 21 (some ⟨w1.heap.size, 0, none⟩) 1 1 := by
      refine ⟨by omega, fun _ => ⟨_, _, rfl, by simp, fun j hj => ?_⟩⟩
      obtain rfl : j = 0 := by omega
      exact ⟨t, a, n, c, k, m, d, by simp, by simp, by simp, HK1.out.below hb0⟩
    refine (few_any _ 1 1 _ hkk).mono ?_
    rintro e w2 ⟨⟨r, rfl⟩, hb⟩
    have hb' := hb0.trans (hb.mono hb0.size)
    have HN2 := Lib.hid (HN1.out.below hb' HN1.out.lt)
    have HX2 := Lib.hid (HX1.out.below hb')
    have HG2 := Lib.hid (HG1.out.below hb')
    have HB2 := Lib.hid (HB1.out.trans (hb'.mono HB1.out.size))
    clear hb hb' hb0 hkk HN1 HX1 HG1 HK1 HB1 p0 p1 p2
    cases r with
    | false =>
      go_wp2_with fail
      refine (awake_any _ HG2.out).mono ?_
      rintro e w3 ⟨rfl, hb⟩
      have HB3 := Lib.hid (HB2.out.trans (hb.mono HB2.out.size))
      clear hb
      go_wp2
      go_ret
      exact ⟨rfl, HB3.out⟩
    | true =>
      cases hh : hostB s with
      | false =>
        go_wp2_with fail
        refine (host_no s _ hh).mono ?_
        rintro e w3 ⟨rfl, hb⟩
        unfold zeroNode ndV
        have hb' := hb.alloc hb.size (.cells #[.int .u16 0, .slice none 0 0, .slice none 0 0] 26)
        have HH3 := Lib.hid (NdB.new w3 (.int .u16 0) (.slice none 0 0) (.slice none 0 0))
        have HN3 := Lib.hid (HN2.out.below hb' HN2.out.lt)
        have HX3 := Lib.hid (HX2.out.below hb')
        have HB3 := Lib.hid (HB2.out.trans (hb'.mono HB2.out.size))
        have hrh : refHostB s = false := by rw [← host_ref]; exact hh
        clear hb hb' HN2 HX2 HB2 HG2 hh
        have q := HH3.out.cell
        obtain ⟨r0, r1, r2⟩ := q
        go_wp2_with fail
        refine (refhost_any s _ hs).mono ?_
        rintro e w4 ⟨rfl, hb⟩
        rw [hrh]
        have HH4 := Lib.hid (HH3.out.below hb HH3.out.lt)
        have HN4 := Lib.hid (HN3.out.below hb HN3.out.lt)
        have HX4 := Lib.hid (HX3.out.below hb)
        have HB4 := Lib.hid (HB3.out.trans (hb.mono HB3.out.size))
        clear hb HH3 HN3 HX3 HB3 r0 r1 r2
        have q := HH4.out.cell
        obtain ⟨r0, r1, r2⟩ := q
        go_wp2_with fail
        refine (same9_any 0 0 none none none none 0 0 0 0 0 0 [] [] _ (Ints.nil _ _) (Ints.nil _ _)).mono ?_
        rintro e w5 ⟨rfl, hb⟩
        rw [eqL_true rfl]
        have HN5 := Lib.hid (HN4.out.below hb HN4.out.lt)
        have HX5 := Lib.hid (HX4.out.below hb)
        have HB5 := Lib.hid (HB4.out.trans (hb.mono HB4.out.size))
        clear hb HN4 HX4 HB4 HH4 r0 r1 r2
        have q := HN5.out.cell
        obtain ⟨p0, p1, p2⟩ := q
        go_wp2_with fail
        -- TAIL
        refine (name_any t a n c k m d xs _ HX5.out bx).mono ?_
        rintro e w6 ⟨rfl, hb⟩
        have HN6 := Lib.hid (HN5.out.below hb HN5.out.lt)
        have HX6 := Lib.hid (HX5.out.below hb)
        have HB6 := Lib.hid (HB5.out.trans (hb.mono HB5.out.size))
        clear hb HN5 HX5 HB5 p0 p1 p2
        have q := HN6.out.cell
        obtain ⟨p0, p1, p2⟩ := q
        by_cases h11 : (t == 11) = true
        · by_cases hm : m = 0
          · rcases HX6.out.cells with ⟨rfl, rfl⟩ | ⟨b, off, rfl, hbw, hn, hcs⟩
            · have hR := name_end (t := t) (xs := []) (m := m) (fun ys e => by simp at e)
              have dm : ((m : Int) == 0) = true := by simpa using hm
              rw [hR, if_neg (by simp)]
              clear hR hm
              go_wp2
              go_ret
              exact ⟨rfl, HB6.out⟩
            · obtain ⟨L, rfl⟩ : ∃ L, n = L + 1 := ⟨n - 1, by omega⟩
              have hlen := HX6.out.len
              have hlast := hcs L (by omega)
              have hsplit : xs = xs.take L ++ [nth xs L] := by
                rw [← take_succ_nth (by omega), List.take_of_length_le (by omega)]
              have dm : ((m : Int) == 0) = true := by simpa using hm
              by_cases hz : nth xs L = 0
              · obtain ⟨ys, hys⟩ : ∃ ys, xs.take L = ys := ⟨_, rfl⟩
                rw [hys, hz] at hsplit
                have hby : Byt ys := by rw [← hys]; exact bx.take L
                have hny := name_yes (t := t) hby
                rw [← hsplit] at hny
                rw [hz] at hlast
                obtain rfl : t = 11 := by simpa using h11
                subst hm
                rw [hny.1, hny.2]
                have hw : IntKind.i64.wrap ((L : Int) + 1 - 1) = L := by rw [IntKind.wrap_i64]; omega
                clear hny hcs hys
                have hi6 : Ints .u8 w6 (some ⟨b, off, none⟩) L c ys := by
                  have h := HX6.out.init (L := L) (by omega)
                  rw [hsplit, List.take_left' (by have := congrArg List.length hsplit; simp at this; omega)] at h
                  exact h
                have HI6 := Lib.hid hi6
                have hsz : (strB ys).size ≤ 9223372036854775807 := by
                  show (strOfNums ys).size ≤ _
                  rw [strOfNums_size, hi6.len]
                  omega
                clear hi6 hsplit
                have hcv := conv_any (some ⟨b, off, none⟩) L c ys _ HI6.out
                cases hq : refHostB (strB ys) with
                | true =>
                  simp only [Bool.true_and]
                  go_wp2_with fail
                  refine (refhost_any (strB ys) _ hsz).mono ?_
                  rintro e w7 ⟨rfl, hb⟩
                  rw [hq]
                  have HN7 := Lib.hid (HN6.out.below hb HN6.out.lt)
                  have HI7 := Lib.hid (HI6.out.below hb)
                  have HB7 := Lib.hid (HB6.out.trans (hb.mono HB6.out.size))
                  clear hb HN6 HI6 HX6 HB6 p0 p1 p2 hcv hlast hq
                  have q := HN7.out.cell
                  obtain ⟨p0, p1, p2⟩ := q
                  have hcv := conv_any (some ⟨b, off, none⟩) L c ys _ HI7.out
                  go_wp2
                  go_ret
                  exact ⟨rfl, HB7.out⟩
                | false =>
                  simp only [Bool.false_and]
                  rw [if_neg (by simp)]
                  go_wp2_with fail
                  refine (refhost_any (strB ys) _ hsz).mono ?_
                  rintro e w7 ⟨rfl, hb⟩
                  rw [hq]
                  have HB7 := Lib.hid (HB6.out.trans (hb.mono HB6.out.size))
                  clear hb HN6 HI6 HX6 HB6 p0 p1 p2 hcv hlast hq
                  go_wp2
                  go_ret
                  exact ⟨rfl, HB7.out⟩
              · have hR := name_end (t := t) (xs := xs) (m := m) (fun ys e => hz (by
                  have hl : ys.length = L := by have := congrArg List.length e; simp at this; omega
                  rw [e, nth_append_right (by omega), hl, Nat.sub_self]; rfl))
                rw [hR, if_neg (by simp)]
                have hw : IntKind.i64.wrap ((L : Int) + 1 - 1) = L := by rw [IntKind.wrap_i64]; omega
                have dz : (nth xs L == 0) = false := by simpa using hz
                clear hR hm hz hsplit hcs
                go_wp2
                go_ret
                exact ⟨rfl, HB6.out⟩
          · have hR := name_kids (t := t) (xs := xs) hm
            have dm : ((m : Int) == 0) = false := by simpa using hm
            rw [hR, if_neg (by simp)]
            clear hR hm
            go_wp2
            go_ret
            exact ⟨rfl, HB6.out⟩
        · have h11' : (t == 11) = false := by simpa using h11
          have hR := name_type (xs := xs) (m := m) h11'
          rw [hR, if_neg (by simp)]
          clear hR h11
          go_wp2
          go_ret
          exact ⟨rfl, HB6.out⟩
        -- END
      | true =>
        go_wp2_with fail
        refine (host_yes s _ hh).mono ?_
        rintro e w3 ⟨a3, c3, rfl, hi3, hb⟩
        unfold ndV
        have hb' := hb.alloc hb.size (.cells #[.int .u16 11, .slice a3 (s.size + 1) c3, .slice none 0 0] 26)
        have HH3 := Lib.hid (Nd.new (W := w3) 11 hi3)
        have HN3 := Lib.hid (HN2.out.below hb' HN2.out.lt)
        have HX3 := Lib.hid (HX2.out.below hb')
        have HB3 := Lib.hid (HB2.out.trans (hb'.mono HB2.out.size))
        have hrh : refHostB s = true := by rw [← host_ref]; exact hh
        clear hb hb' HN2 HX2 HB2 HG2 hh hi3
        go_wp2_with fail
        refine (refhost_any s _ hs).mono ?_
        rintro e w4 ⟨rfl, hb⟩
        rw [hrh]
        have HH4 := Lib.hid (HH3.out.below hb)
        have HN4 := Lib.hid (HN3.out.below hb HN3.out.lt)
        have HX4 := Lib.hid (HX3.out.below hb)
        have HB4 := Lib.hid (HB3.out.trans (hb.mono HB3.out.size))
        clear hb HH3 HN3 HX3 HB3
        have q := HH4.out.cells
        obtain ⟨r0, r1, r2⟩ := q
        have hny := name_yes (t := 11) (numsB_byt s)
        rw [strB_nums, hrh] at hny
        go_wp2_with fail
        rw [show Value.agg #[.int .u16 11, .slice a3 (s.size + 1) c3, .slice none 0 0] = ndV 11 a3 (s.size + 1) c3 none 0 0 from rfl]
        refine (name_any 11 a3 (s.size + 1) c3 none 0 0 (numsB s ++ [0]) _ HH4.out.2 ((numsB_byt s).append (fun z hz => by simp at hz; omega))).mono ?_
        rintro e w5 ⟨rfl, hb⟩
        rw [hny.1, if_pos (by rfl), hny.2]
        have HH5 := Lib.hid (HH4.out.below hb)
        have HN5 := Lib.hid (HN4.out.below hb HN4.out.lt)
        have HX5 := Lib.hid (HX4.out.below hb)
        have HB5 := Lib.hid (HB4.out.trans (hb.mono HB4.out.size))
        clear hb HN4 HX4 HB4 HH4 r0 r1 r2 hny
        have q := HN5.out.cell
        obtain ⟨p0, p1, p2⟩ := q
        have q := HH5.out.cells
        obtain ⟨r0, r1, r2⟩ := q
        have hcv := conv_any a3 (s.size + 1) c3 (numsB s ++ [0]) _ HH5.out.2
        have hse : (strB (numsB s ++ [0])).toList = (s ++ (⟨#[0]⟩ : ByteArray)).toList := by rw [strB_zero]
        go_wp2_with fail
        -- TAIL
        refine (name_any t a n c k m d xs _ HX5.out bx).mono ?_
        rintro e w6 ⟨rfl, hb⟩
        have HN6 := Lib.hid (HN5.out.below hb HN5.out.lt)
        have HX6 := Lib.hid (HX5.out.below hb)
        have HB6 := Lib.hid (HB5.out.trans (hb.mono HB5.out.size))
        clear hb HN5 HX5 HB5 p0 p1 p2
        have q := HN6.out.cell
        obtain ⟨p0, p1, p2⟩ := q
        by_cases h11 : (t == 11) = true
        · by_cases hm : m = 0
          · rcases HX6.out.cells with ⟨rfl, rfl⟩ | ⟨b, off, rfl, hbw, hn, hcs⟩
            · have hR := name_end (t := t) (xs := []) (m := m) (fun ys e => by simp at e)
              have dm : ((m : Int) == 0) = true := by simpa using hm
              rw [hR, if_neg (by simp)]
              clear hR hm
              go_wp2
              go_ret
              exact ⟨rfl, HB6.out⟩
            · obtain ⟨L, rfl⟩ : ∃ L, n = L + 1 := ⟨n - 1, by omega⟩
              have hlen := HX6.out.len
              have hlast := hcs L (by omega)
              have hsplit : xs = xs.take L ++ [nth xs L] := by
                rw [← take_succ_nth (by omega), List.take_of_length_le (by omega)]
              have dm : ((m : Int) == 0) = true := by simpa using hm
              by_cases hz : nth xs L = 0
              · obtain ⟨ys, hys⟩ : ∃ ys, xs.take L = ys := ⟨_, rfl⟩
                rw [hys, hz] at hsplit
                have hby : Byt ys := by rw [← hys]; exact bx.take L
                have hny := name_yes (t := t) hby
                rw [← hsplit] at hny
                rw [hz] at hlast
                obtain rfl : t = 11 := by simpa using h11
                subst hm
                rw [hny.1, hny.2]
                have hw : IntKind.i64.wrap ((L : Int) + 1 - 1) = L := by rw [IntKind.wrap_i64]; omega
                clear hny hcs hys
                have hi6 : Ints .u8 w6 (some ⟨b, off, none⟩) L c ys := by
                  have h := HX6.out.init (L := L) (by omega)
                  rw [hsplit, List.take_left' (by have := congrArg List.length hsplit; simp at this; omega)] at h
                  exact h
                have HI6 := Lib.hid hi6
                have hsz : (strB ys).size ≤ 9223372036854775807 := by
                  show (strOfNums ys).size ≤ _
                  rw [strOfNums_size, hi6.len]
                  omega
                clear hi6 hsplit
                have hcv := conv_any (some ⟨b, off, none⟩) L c ys _ HI6.out
                cases hq : refHostB (strB ys) with
                | true =>
                  simp only [Bool.true_and]
                  go_wp2_with fail
                  refine (refhost_any (strB ys) _ hsz).mono ?_
                  rintro e w7 ⟨rfl, hb⟩
                  rw [hq]
                  have HN7 := Lib.hid (HN6.out.below hb HN6.out.lt)
                  have HI7 := Lib.hid (HI6.out.below hb)
                  have HB7 := Lib.hid (HB6.out.trans (hb.mono HB6.out.size))
                  clear hb HN6 HI6 HX6 HB6 p0 p1 p2 hcv hlast hq
                  have q := HN7.out.cell
                  obtain ⟨p0, p1, p2⟩ := q
                  have hcv := conv_any (some ⟨b, off, none⟩) L c ys _ HI7.out
                  go_wp2
                  go_ret
                  exact ⟨rfl, HB7.out⟩
                | false =>
                  simp only [Bool.false_and]
                  rw [if_neg (by simp)]
                  go_wp2_with fail
                  refine (refhost_any (strB ys) _ hsz).mono ?_
                  rintro e w7 ⟨rfl, hb⟩
                  rw [hq]
                  have HB7 := Lib.hid (HB6.out.trans (hb.mono HB6.out.size))
                  clear hb HN6 HI6 HX6 HB6 p0 p1 p2 hcv hlast hq
                  go_wp2
                  go_ret
                  exact ⟨rfl, HB7.out⟩
              · have hR := name_end (t := t) (xs := xs) (m := m) (fun ys e => hz (by
                  have hl : ys.length = L := by have := congrArg List.length e; simp at this; omega
                  rw [e, nth_append_right (by omega), hl, Nat.sub_self]; rfl))
                rw [hR, if_neg (by simp)]
                have hw : IntKind.i64.wrap ((L : Int) + 1 - 1) = L := by rw [IntKind.wrap_i64]; omega
                have dz : (nth xs L == 0) = false := by simpa using hz
                clear hR hm hz hsplit hcs
                go_wp2
                go_ret
                exact ⟨rfl, HB6.out⟩
          · have hR := name_kids (t := t) (xs := xs) hm
            have dm : ((m : Int) == 0) = false := by simpa using hm
            rw [hR, if_neg (by simp)]
            clear hR hm
            go_wp2
            go_ret
            exact ⟨rfl, HB6.out⟩
        · have h11' : (t == 11) = false := by simpa using h11
          have hR := name_type (xs := xs) (m := m) h11'
          rw [hR, if_neg (by simp)]
          clear hR h11
          go_wp2
          go_ret
          exact ⟨rfl, HB6.out⟩
        -- END
  · have d0 : decide ((500 : Int) < (s.size : Int)) = true := by simp; omega
    go_enter Tryz.func3, Tryz.ntmps3
    go_wp2_with fail
    refine (awake_any _ HG0.out).mono ?_
    rintro e w1 ⟨rfl, hb⟩
    have HG1 := Lib.hid (HG0.out.below hb)
    have HB1 := Lib.hid (HB0.out.trans (hb.mono HB0.out.size))
    clear hb
    go_wp2_with fail
    refine (awake_any _ HG1.out).mono ?_
    rintro e w2 ⟨rfl, hb⟩
    have HB2 := Lib.hid (HB1.out.trans (hb.mono HB1.out.size))
    clear hb
    go_wp2
    go_ret
    exact ⟨rfl, HB2.out⟩
end Go.Proofs.YtmncmbbgdkkgaaaGreatDoor

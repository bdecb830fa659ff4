/- address.Parse of any string; the reference's digit. -/
import Derived.Test.YtmncmbbgdkkgaaaGreatDoorAd28
namespace Go.Proofs.YtmncmbbgdkkgaaaGreatDoor
set_option maxRecDepth 100000
set_option linter.unusedVariables false
set_option linter.unusedSimpArgs false
open Go.RowKit

theorem Glob.tz' {w : World} (h : Glob w) : Tz w := h.tz
def typOf (zs : List Int) : Int := if zs.length = 4 then 5 else 6
/-- the text of any address's bytes -/
theorem text_any (zs : List Int) (hz : Byt zs) (hl : zs.length = 4 ∨ zs.length = 16) (n : Nat) (hn : n = zs.length) (a : Option Addr) (c : Nat) (T : Int) (hT : T = if n = 4 then 5 else 6) (w : World) (hg : Glob w) (hi : Ints .u8 w a n c zs) :
    Calls Tryz.prog 17 #[ndV T a n c none 0 0] w fun e w' => e = .returned (.string (textOf zs)) ∧ Below w.heap.size w w' := by
  subst hT
  rcases hl with h | h
  · obtain rfl : n = 4 := by omega
    have h2 := text4 5 a c none 0 0 zs w hi hz rfl hg.tab
    unfold textOf
    rw [if_pos h]
    exact h2
  · obtain rfl : n = 16 := by omega
    have h2 := text16 6 a c none 0 0 zs w hi hz rfl hg.tz
    have e : textOf zs = joinB ((numsZ 2 zs).map hexB) 58 := by unfold textOf; rw [if_neg (by omega)]
    rw [e]
    exact h2
theorem pz_byt (s : ByteArray) : Byt (pz s) := by
  unfold pz
  split
  · exact putL_byt _ _
  · exact putL_byt _ _
theorem has58 (l : List UInt8) : decide (0 ≤ Lib.indexByte l 58) = decide (58 ∈ l) := by
  have hge := Lib.indexByte_ge l 58
  rw [Bool.eq_iff_iff, decide_eq_true_iff, decide_eq_true_iff]
  constructor
  · intro h
    obtain ⟨h1, _⟩ := Lib.indexByte_some (l := l) (c := 58) (o := (Lib.indexByte l 58).toNat) (by omega)
    exact List.mem_of_getElem? h1
  · intro h
    rcases Int.lt_or_le (Lib.indexByte l 58) 0 with h2 | h2
    · exfalso
      obtain ⟨k, hk, he⟩ := List.getElem_of_mem h
      exact Lib.indexByte_none (show Lib.indexByte l 58 = -1 by omega) k (by rw [List.getElem?_eq_getElem hk, he])
    · exact h2
def okP (s : ByteArray) : Prop := ((pz s).length = 4 ∨ (pz s).length = 16) ∧ textOf (pz s) = s
theorem parse_any (s : ByteArray) (w : World) (hs : s.size ≤ 300) (hg : Glob w) :
    Calls Tryz.prog 15 #[.string s] w fun e w' => ((okP s ∧ ∃ a' c', e = .returned (.tuple #[ndV (if (pz s).length = 4 then 5 else 6) a' (pz s).length c' none 0 0, .bool true]) ∧ Ints .u8 w' a' (pz s).length c' (pz s)) ∨ (¬ okP s ∧ e = .returned (.tuple #[zeroNode, .bool false]))) ∧ Below w.heap.size w w' := by
  have hb := pz_byt s
  have hstr : ∀ (c : UInt8) j, j < (words s c).length → str (words s c) j ∈ words s c := fun c j hj => by
    unfold str
    rw [List.getD_eq_getElem?_getD, List.getElem?_eq_getElem hj]
    exact List.getElem_mem hj
  have hnth : ∀ (ws : List ByteArray) (f : ByteArray → Nat) j, j < ws.length → nth (ws.map fun x => (f x : Int)) j = (f (str ws j) : Int) := fun ws f j hj => by
    unfold nth str
    simp [List.getD, hj]
  by_cases h58 : (58 : UInt8) ∈ s.data.toList
  · have hc : decide (0 ≤ Lib.indexByte s.data.toList 58) = true := by rw [has58]; exact decide_eq_true h58
    have hpz : pz s = putL 2 ((words s 58).map fun x => (v16 x : Int)) := by unfold pz; rw [if_pos h58]
    have hlen : (pz s).length = (Lib.countB s ⟨#[58]⟩ + 1) * 2 := by rw [hpz, putL_length (by omega), List.length_map, words_len]
    have hle := words_le s 58
    rw [words_len] at hle
    refine (parse16 s w (by omega) hg hc (words s 58) rfl _ rfl (words_len s 58) (by omega) ((words s 58).map fun x => (v16 x : Int)) (by rw [List.length_map, words_len]) (fun j hj => ?_) (pz s) hpz (pz s).length hlen (textOf (pz s)) _ rfl (fun W a c hG hi hn => text_any (pz s) hb hn _ rfl a c _ rfl W hG hi)).mono ?_
    · rw [← words_len] at hj
      refine ⟨v16 (str (words s 58) j), hnth _ _ _ hj, v16_le _, fun W hG => pu16 _ W ?_ hG⟩
      have := word_le s 58 _ (hstr 58 j hj)
      omega
    · rintro e w' ⟨h, hbw⟩
      refine ⟨?_, hbw⟩
      rcases h with ⟨h1, h2, h3⟩ | ⟨h1, h2⟩
      · exact .inl ⟨⟨h1, h2⟩, h3⟩
      · exact .inr ⟨h1, h2⟩
  · have hc : decide (0 ≤ Lib.indexByte s.data.toList 58) = false := by rw [has58]; exact decide_eq_false h58
    have hpz : pz s = putL 1 ((words s 46).map fun x => (v10 x : Int)) := by unfold pz; rw [if_neg h58]
    have hlen : (pz s).length = (Lib.countB s ⟨#[46]⟩ + 1) * 1 := by rw [hpz, putL_length (by omega), List.length_map, words_len]
    have hle := words_le s 46
    rw [words_len] at hle
    refine (parse10 s w (by omega) hg hc (words s 46) rfl _ rfl (words_len s 46) (by omega) ((words s 46).map fun x => (v10 x : Int)) (by rw [List.length_map, words_len]) (fun j hj => ?_) (pz s) hpz (pz s).length hlen (textOf (pz s)) _ rfl (fun W a c hG hi hn => text_any (pz s) hb hn _ rfl a c _ rfl W hG hi)).mono ?_
    · rw [← words_len] at hj
      refine ⟨v10 (str (words s 46) j), hnth _ _ _ hj, v10_le _, fun W hG => pu10 _ W ?_ hG⟩
      have := word_le s 46 _ (hstr 46 j hj)
      omega
    · rintro e w' ⟨h, hbw⟩
      refine ⟨?_, hbw⟩
      rcases h with ⟨h1, h2, h3⟩ | ⟨h1, h2⟩
      · exact .inl ⟨⟨h1, h2⟩, h3⟩
      · exact .inr ⟨h1, h2⟩
theorem digit_any (c : UInt8) (w : World) : Calls Tryz.prog 32 #[.int .u8 (c.toNat : Int)] w fun e w' => e = .returned (.int .i64 (rdig c : Int)) ∧ w' = w := by
  have hc := c.toNat_lt
  by_cases h1 : 48 ≤ c.toNat ∧ c.toNat ≤ 57
  · have e : rdig c = c.toNat - 48 := by unfold rdig; rw [if_pos h1]
    have d0 : decide ((48 : Int) ≤ (c.toNat : Int)) = true := by simp; omega
    have d1 : decide ((c.toNat : Int) ≤ 57) = true := by simp; omega
    have hw : IntKind.u8.wrap ((c.toNat : Int) - 48) = (c.toNat : Int) - 48 := by rw [IntKind.wrap_u8]; omega
    go_enter Tryz.func32, Tryz.ntmps32
    go_wp2
    go_ret
    exact ⟨ret_int (by omega), rfl⟩
  · by_cases h2 : 97 ≤ c.toNat ∧ c.toNat ≤ 102
    · have e : rdig c = c.toNat - 87 := by unfold rdig; rw [if_neg h1, if_pos h2]
      have d0 : decide ((48 : Int) ≤ (c.toNat : Int)) = true := by simp; omega
      have d1 : decide ((c.toNat : Int) ≤ 57) = false := by simp; omega
      have d2 : decide ((97 : Int) ≤ (c.toNat : Int)) = true := by simp; omega
      have d3 : decide ((c.toNat : Int) ≤ 102) = true := by simp; omega
      have hw : IntKind.u8.wrap ((c.toNat : Int) - 97) = (c.toNat : Int) - 97 := by rw [IntKind.wrap_u8]; omega
      go_enter Tryz.func32, Tryz.ntmps32
      go_wp2
      go_ret
      exact ⟨ret_int (by omega), rfl⟩
    · have e : rdig c = 99 := by unfold rdig; rw [if_neg h1, if_neg h2]
      rw [e]
      cases d0 : decide ((48 : Int) ≤ (c.toNat : Int)) <;> cases d1 : decide ((c.toNat : Int) ≤ 57) <;> cases d2 : decide ((97 : Int) ≤ (c.toNat : Int)) <;> cases d3 : decide ((c.toNat : Int) ≤ 102)
      all_goals first
        | (exfalso; simp at d0 d1; omega)
        | (exfalso; simp at d2 d3; omega)
        | (clear e h1 h2
           go_enter Tryz.func32, Tryz.ntmps32
           go_wp2
           go_ret
           exact ⟨rfl, rfl⟩)
end Go.Proofs.YtmncmbbgdkkgaaaGreatDoor

/- The reference's Parse. -/
import Derived.Test.YtmncmbbgdkkgaaaGreatDoorAd29
namespace Go.Proofs.YtmncmbbgdkkgaaaGreatDoor
set_option maxRecDepth 100000
set_option linter.unusedVariables false
set_option linter.unusedSimpArgs false
open Go.RowKit

theorem info_int : (Tryz.prog.info? 3).map (fun i => (i.zero, i.size, i.bytes)) = some (some (.int .i64 0), 1, 8) := by kernel_rfl
theorem rdig_le (c : UInt8) : rdig c ≤ 99 := by
  unfold rdig
  split
  · omega
  · split <;> omega
theorem lies1 (w : World) (v : Value) (e : TypeId) : ∀ j u, ([v] : List Value)[j]? = some u → (w.alloc (.cells #[v] e)).cell? ((⟨w.heap.size, 0, none⟩ : Addr).add j) = some u := fun j u hu => World.news_of_block (World.alloc_heap_new w _) j u (by simpa using hu)
theorem nd_set1 {w : World} {b : Nat} {x0 x1 x2 u : Value} (h : NdB w b x0 x1 x2) : NdB (w.setCell ⟨b, 1, none⟩ u) b x0 u x2 := by
  unfold NdB at *
  simp [World.setCell, Array.getElem?_modify, h]
theorem be_one (y : Int) : be 1 y = [y % 256] := rfl
theorem be_two {y : Int} (h0 : 0 ≤ y) (h1 : y ≤ 65535) : be 2 y = [y / 256, y % 256] := by
  have h : y / 256 % 256 = y / 256 := by omega
  show [y / 256 % 256, y % 256] = _
  rw [h]
def baseZ (l : List UInt8) : Int := if 58 ∈ l then 16 else 10
def signZ (l : List UInt8) : Int := if 58 ∈ l then 58 else 46
set_option maxHeartbeats 8000000 in
theorem refparse (s : ByteArray) (w : World) (hs : s.size ≤ 300) (b : Nat) (B : Int) (hB : (b : Int) = B) (sg : UInt8) (hb : baseZ s.data.toList = B) (hsg : signZ s.data.toList = (sg.toNat : Int)) (m K : Nat) (T : Int) (hbb : (b = 10 ∧ sg = 46 ∧ m = 1 ∧ K = 4 ∧ T = 5) ∨ (b = 16 ∧ sg = 58 ∧ m = 2 ∧ K = 16 ∧ T = 6)) :
    Calls Tryz.prog 16 #[.string s] w fun e w' => ((∃ l, rl b sg s.data.toList [] (-1) = some l ∧ (∀ y ∈ l, 0 ≤ y ∧ y ≤ 65535) ∧ (putL m l).length = K ∧ ∃ a' c', e = .returned (.tuple #[ndV T a' K c' none 0 0, .bool true]) ∧ Ints .u8 w' a' K c' (putL m l)) ∨
      ((rl b sg s.data.toList [] (-1) = none ∨ ∃ l, rl b sg s.data.toList [] (-1) = some l ∧ (putL m l).length ≠ K) ∧ e = .returned (.tuple #[zeroNode, .bool false]))) ∧ Below w.heap.size w w' := by
  have HBZ := Lib.hid hb
  have HSG := Lib.hid hsg
  clear hb hsg
  go_enter Tryz.func16, Tryz.ntmps16
  go_wp2
  obtain ⟨W, hW⟩ : ∃ W, w.alloc (.cells #[.int .u16 0, .slice none 0 0, .slice none 0 0] 26) = W := ⟨_, rfl⟩
  rw [hW]
  have HR := Lib.hid (show NdB W w.heap.size _ _ _ from hW ▸ NdB.new w (.int .u16 0) (.slice none 0 0) (.slice none 0 0))
  have HB := Lib.hid (show Below w.heap.size w W from hW ▸ (Below.refl _ w).alloc (Nat.le_refl _) _)
  have hsz : W.heap.size = w.heap.size + 1 := by rw [← hW]; simp
  clear hW
  go_loopw [4, 5, 6] (fun x y i wr => ∃ j : Nat, j ≤ s.size ∧ i = .int .i64 j ∧ x = .int .i64 (baseZ (s.data.toList.take j)) ∧ y = .int .u8 (signZ (s.data.toList.take j)) ∧ wr = W) (fun _ _ i _ => s.size - (intOf i).toNat)
  case atStart => exact ⟨0, Nat.zero_le _, rfl, rfl, rfl, rfl⟩
  case round =>
    obtain ⟨j, hj, rfl, rfl, rfl, rfl⟩ := hrel
    by_cases hlt : j < s.size
    · have ht : s.data.toList.take (j + 1) = s.data.toList.take j ++ [s[j]] := by
        rw [List.take_succ_eq_append_getElem (by rw [Array.length_toList]; exact hlt)]
        congr 1
      have HT := Lib.hid ht
      clear ht
      cases d : ((s[j].toNat : Int) == 58) with
      | true =>
        have e : s[j] = 58 := by
          apply UInt8.toNat_inj.1
          simp at d
          exact_mod_cast d
        have H1 := Lib.hid (show baseZ (s.data.toList.take (j + 1)) = 16 ∧ signZ (s.data.toList.take (j + 1)) = 58 by
          rw [HT.out, e]; simp [baseZ, signZ])
        clear e
        go_wp2
        go_roundw
        case rel => exact ⟨j + 1, by omega, by go_num, by rw [H1.out.1], by rw [H1.out.2], by first | rfl | trivial⟩
        case measure => simp [intOf]; omega
      | false =>
        have e : ¬ s[j] = 58 := fun e => by rw [e] at d; simp at d
        have H1 := Lib.hid (show baseZ (s.data.toList.take (j + 1)) = baseZ (s.data.toList.take j) ∧ signZ (s.data.toList.take (j + 1)) = signZ (s.data.toList.take j) by
          rw [HT.out]
          have e' : ¬ (58 : UInt8) = s[j] := fun h => e h.symm
          simp [baseZ, signZ, e'])
        clear e
        go_wp2
        go_roundw
        case rel => exact ⟨j + 1, by omega, by go_num, by rw [H1.out.1], by rw [H1.out.2], by first | rfl | trivial⟩
        case measure => simp [intOf]; omega
    · obtain rfl : j = s.size := by omega
      have htake : s.data.toList.take s.size = s.data.toList := List.take_of_length_le (by rw [Array.length_toList]; exact Nat.le_refl _)
      rw [htake, HBZ.out, HSG.out]
      clear htake
      go_wp2
      -- LOOP2
      have h0 : rl b sg s.data.toList [] (-1) = rl b sg (s.data.toList.drop 0) [] (-1) := rfl
      have H0 := Lib.hid h0
      clear h0
      obtain ⟨W, hW⟩ : ∃ W, W = wr := ⟨_, rfl⟩
      rw [← hW] at HR HB hsz ⊢
      clear hW
      obtain ⟨i0, hi, hz0, hz1, hz2⟩ := info_parts info_int
      go_loopw [7, 8, 9, 10] (fun vl vw vi vd wq => (∃ (j : Nat) (l : List Int) (x : Int), j ≤ s.size ∧ vi = .int .i64 j ∧ vw = .int .i64 x ∧ -1 ≤ x ∧ x ≤ 65535 ∧ l.length ≤ j ∧ (∀ y ∈ l, 0 ≤ y ∧ y ≤ 65535) ∧ Hid (rl b sg s.data.toList [] (-1) = rl b sg (s.data.toList.drop j) l x) ∧ wq.ownsRow W.heap.size 3 1 vl l.length (l.map (Value.int .i64)) ∧ Below W.heap.size W wq) ∨
          (∃ l : List Int, vi = .int .i64 ((s.size + 1 : Nat) : Int) ∧ l.length ≤ s.size + 1 ∧ (∀ y ∈ l, 0 ≤ y ∧ y ≤ 65535) ∧ Hid (rl b sg s.data.toList [] (-1) = some l) ∧ wq.ownsRow W.heap.size 3 1 vl l.length (l.map (Value.int .i64)) ∧ Below W.heap.size W wq)) (fun _ _ i _ _ => s.size + 1 - (intOf i).toNat)
      case atStart => exact .inl ⟨0, [], -1, Nat.zero_le _, rfl, rfl, by omega, by omega, by simp, by simp, H0, World.ownsRow_nil _ _ _ _, Below.refl _ _⟩
      case round =>
        rcases hrel with ⟨j, l, x, hj, rfl, rfl, hx0, hx1, hll, hlr, hrl, hown, hbl⟩ | ⟨l, rfl, hll, hlr, hrl, hown, hbl⟩
        · have HLR := Lib.hid hlr
          have HO := Lib.hid hown
          have HBL := Lib.hid hbl
          have hszl := hbl.size
          obtain ⟨la, lc, rfl, -⟩ := Sl.own hown
          clear hlr hown hbl
          by_cases hlt : j < s.size
          · have hd : s.data.toList.drop j = s[j] :: s.data.toList.drop (j + 1) := by
              rw [List.drop_eq_getElem_cons (by rw [Array.length_toList]; exact hlt)]
              congr 1
            have hne : ((j : Int) == (s.size : Int)) = false := by rw [beq_eq_false_iff_ne]; omega
            have hle : decide ((j : Int) ≤ (s.size : Int)) = true := by simp; omega
            have hrl' := hrl.out
            rw [hd, rl] at hrl'
            clear hrl hd
            by_cases hc : s[j] = sg
            · rw [if_pos hc] at hrl'
              have hcs : ((s[j].toNat : Int) == (sg.toNat : Int)) = true := by rw [hc]; simp
              clear hc
              by_cases hx : x < 0
              · rw [if_pos hx] at hrl'
                have hxd : decide (x < 0) = true := by simpa using hx
                have HRR := Lib.hid (HR.out.below HBL.out HR.out.lt)
                have q := HRR.out.cell
                obtain ⟨q0, q1, q2⟩ := q
                have f0 := HRR.out.free 0
                have f1 := HRR.out.free 1
                have f2 := HRR.out.free 2
                have HWW := Lib.hid (HB.out.trans (HBL.out.mono HB.out.size))
                have HF := Lib.hid (hrl')
                clear hrl'
                go_wp2
                obtain ⟨Z, hZ, hnd, hbz, hoz⟩ := set3 (x0 := .int .u16 0) (x1 := .slice none 0 0) (x2 := .slice none 0 0) HRR.out
                rw [hZ]
                refine bodyPost_ret (v := .tuple #[zeroNode, .bool false]) ?_ rfl ?_
                · rw [results_cellb rfl, show zeroNode = .agg #[.int .u16 0, .slice none 0 0, .slice none 0 0] from rfl]
                  simp [asAddr, Result.andThen, hnd.load]
                · exact ⟨.inr ⟨.inl HF.out, rfl⟩, HWW.out.trans hbz⟩
              · rw [if_neg hx] at hrl'
                have hxd : decide (x < 0) = false := by simpa using hx
                have HRL := Lib.hid hrl'
                clear hrl'
                go_wp2_with (at_builtin; refine append_own_any _ rfl _ _ 60 rfl W.heap.size 3 i0 (.int .i64 0) 8 Tryz.underlying60 hi hz0 hz1 hz2 rfl (.slice la l.length lc) _ _ rfl (HO.out.alloc _) _ _ _ [.int .i64 x] rfl (Sl.at _ _ [.int .i64 x] 3 1 rfl rfl (by omega)) (by simp [Value.oneCell']) (by unfold maxLen; omega) (by omega) (by simp; omega) ?_; intro v' w4 hown1 hgrow)
                have hown' := hown1.out
                rw [show l.map (Value.int .i64) ++ [.int .i64 x] = (l ++ [x]).map (Value.int .i64) by simp, show l.length + 1 = (l ++ [x]).length by simp] at hown'
                obtain ⟨a3, c3, hv3, _⟩ := Sl.own hown'
                subst hv3
                have HO4 := Lib.hid hown'
                have HW4 := Lib.hid ((HBL.out.alloc hszl (.cells #[.int .i64 x] 3)).grown hgrow.out (by simp; omega) (fun k' hk' => (HO.out.lt k' hk').1))
                have HLR4 := Lib.hid (show ∀ y ∈ l ++ [x], 0 ≤ y ∧ y ≤ 65535 from fun y hy => by
                  rcases List.mem_append.1 hy with hy | hy
                  · exact HLR.out y hy
                  · rw [List.mem_singleton.1 hy]; omega)
                clear hown' hown1 hgrow
                go_wp2
                go_roundw
                case rel => exact .inl ⟨j + 1, l ++ [x], -1, by omega, by go_num, rfl, by omega, by omega, by simp; omega, HLR4.out, HRL, HO4.out, HW4.out⟩
                case measure => simp [intOf]; omega
            · rw [if_neg hc] at hrl'
              have hcs : ((s[j].toNat : Int) == (sg.toNat : Int)) = false := by
                rw [beq_eq_false_iff_ne]
                intro e
                exact hc (UInt8.toNat_inj.1 (by exact_mod_cast e))
              clear hc
              obtain ⟨dz, hdz⟩ : ∃ dz : Int, (rdig s[j] : Int) = dz := ⟨_, rfl⟩
              have hdig : Hid (∀ w, Calls Tryz.prog 32 #[.int .u8 (s[j].toNat : Int)] w fun e w' => e = .returned (.int .i64 dz) ∧ w' = w) := Lib.hid (fun w => by rw [← hdz]; exact digit_any _ w)
              have hd0 : 0 ≤ dz ∧ dz ≤ 99 := by
                have := rdig_le s[j]
                omega
              rw [hB, hdz] at hrl'
              clear hdz
              by_cases hdx : B ≤ dz ∨ x = 0
              · rw [if_pos hdx] at hrl'
                rcases Bool.eq_false_or_eq_true (decide (B ≤ dz)) with hbd | hbd
                all_goals
                  have hxz : decide (B ≤ dz) = false → (x == 0) = true := fun h => by
                    rw [decide_eq_false_iff_not] at h
                    rw [beq_iff_eq]; omega
                  try replace hxz := hxz hbd
                  have HRR := Lib.hid (HR.out.below HBL.out HR.out.lt)
                  have q := HRR.out.cell
                  obtain ⟨q0, q1, q2⟩ := q
                  have f0 := HRR.out.free 0
                  have f1 := HRR.out.free 1
                  have f2 := HRR.out.free 2
                  have HWW := Lib.hid (HB.out.trans (HBL.out.mono HB.out.size))
                  have HF := Lib.hid (hrl')
                  clear hrl' hdx
                  go_wp2_with (go_at_call 32; refine (hdig.out _).mono ?_; rintro e w' ⟨rfl, rfl⟩)
                  obtain ⟨Z, hZ, hnd, hbz, hoz⟩ := set3 (x0 := .int .u16 0) (x1 := .slice none 0 0) (x2 := .slice none 0 0) HRR.out
                  rw [hZ]
                  refine bodyPost_ret (v := .tuple #[zeroNode, .bool false]) ?_ rfl ?_
                  · rw [results_cellb rfl, show zeroNode = .agg #[.int .u16 0, .slice none 0 0, .slice none 0 0] from rfl]
                    simp [asAddr, Result.andThen, hnd.load]
                  · exact ⟨.inr ⟨.inl HF.out, rfl⟩, HWW.out.trans hbz⟩
              · rw [if_neg hdx] at hrl'
                have hbd : decide (B ≤ dz) = false := by simp; omega
                have hxz : (x == 0) = false := by rw [beq_eq_false_iff_ne]; omega
                rcases hbb with ⟨rfl, -, -, -, -⟩ | ⟨rfl, -, -, -, -⟩
                · obtain rfl : B = 10 := by rw [← hB]; rfl
                  obtain ⟨y, hy⟩ : ∃ y, max x 0 * 10 = y := ⟨_, rfl⟩
                  have hy0 : 0 ≤ y ∧ y ≤ 1048560 := by omega
                  have hw1 : IntKind.i64.wrap y = y := by rw [IntKind.wrap_i64]; omega
                  have hw2 : IntKind.i64.wrap (y + dz) = y + dz := by rw [IntKind.wrap_i64]; omega
                  rw [hy, show ((mxB 10 : Nat) : Int) = 255 from rfl] at hrl'
                  by_cases hov : (255 : Int) < y + dz
                  · rw [if_pos hov] at hrl'
                    rcases Bool.eq_false_or_eq_true (decide ((65535 : Int) < y + dz)) with h65 | h65
                    all_goals
                      have h255 : decide ((255 : Int) < y + dz) = true := by simpa using hov
                      have HRR := Lib.hid (HR.out.below HBL.out HR.out.lt)
                      have q := HRR.out.cell
                      obtain ⟨q0, q1, q2⟩ := q
                      have f0 := HRR.out.free 0
                      have f1 := HRR.out.free 1
                      have f2 := HRR.out.free 2
                      have HWW := Lib.hid (HB.out.trans (HBL.out.mono HB.out.size))
                      have HF := Lib.hid (hrl')
                      clear hrl' hdx hov
                      go_wp2_with (go_at_call 32; refine (hdig.out _).mono ?_; rintro e w' ⟨rfl, rfl⟩)
                      obtain ⟨Z, hZ, hnd, hbz, hoz⟩ := set3 (x0 := .int .u16 0) (x1 := .slice none 0 0) (x2 := .slice none 0 0) HRR.out
                      rw [hZ]
                      refine bodyPost_ret (v := .tuple #[zeroNode, .bool false]) ?_ rfl ?_
                      · rw [results_cellb rfl, show zeroNode = .agg #[.int .u16 0, .slice none 0 0, .slice none 0 0] from rfl]
                        simp [asAddr, Result.andThen, hnd.load]
                      · exact ⟨.inr ⟨.inl HF.out, rfl⟩, HWW.out.trans hbz⟩
                  · rw [if_neg hov] at hrl'
                    have h65 : decide ((65535 : Int) < y + dz) = false := by simp; omega
                    have h255 : decide ((255 : Int) < y + dz) = false := by simp; omega
                    have HRL := Lib.hid hrl'
                    clear hrl' hdx
                    go_wp2_with (go_at_call 32; refine (hdig.out _).mono ?_; rintro e w' ⟨rfl, rfl⟩)
                    go_roundw
                    case rel => exact .inl ⟨j + 1, l, y + dz, by omega, by go_num, rfl, by omega, by omega, by omega, HLR.out, HRL, HO.out, HBL.out⟩
                    case measure => simp [intOf]; omega
                · obtain rfl : B = 16 := by rw [← hB]; rfl
                  obtain ⟨y, hy⟩ : ∃ y, max x 0 * 16 = y := ⟨_, rfl⟩
                  have hy0 : 0 ≤ y ∧ y ≤ 1048560 := by omega
                  have hw1 : IntKind.i64.wrap y = y := by rw [IntKind.wrap_i64]; omega
                  have hw2 : IntKind.i64.wrap (y + dz) = y + dz := by rw [IntKind.wrap_i64]; omega
                  rw [hy, show ((mxB 16 : Nat) : Int) = 65535 from rfl] at hrl'
                  by_cases hov : (65535 : Int) < y + dz
                  · rw [if_pos hov] at hrl'
                    have h65 : decide ((65535 : Int) < y + dz) = true := by simpa using hov
                    have HRR := Lib.hid (HR.out.below HBL.out HR.out.lt)
                    have q := HRR.out.cell
                    obtain ⟨q0, q1, q2⟩ := q
                    have f0 := HRR.out.free 0
                    have f1 := HRR.out.free 1
                    have f2 := HRR.out.free 2
                    have HWW := Lib.hid (HB.out.trans (HBL.out.mono HB.out.size))
                    have HF := Lib.hid (hrl')
                    clear hrl' hdx hov
                    go_wp2_with (go_at_call 32; refine (hdig.out _).mono ?_; rintro e w' ⟨rfl, rfl⟩)
                    obtain ⟨Z, hZ, hnd, hbz, hoz⟩ := set3 (x0 := .int .u16 0) (x1 := .slice none 0 0) (x2 := .slice none 0 0) HRR.out
                    rw [hZ]
                    refine bodyPost_ret (v := .tuple #[zeroNode, .bool false]) ?_ rfl ?_
                    · rw [results_cellb rfl, show zeroNode = .agg #[.int .u16 0, .slice none 0 0, .slice none 0 0] from rfl]
                      simp [asAddr, Result.andThen, hnd.load]
                    · exact ⟨.inr ⟨.inl HF.out, rfl⟩, HWW.out.trans hbz⟩
                  · rw [if_neg hov] at hrl'
                    have h65 : decide ((65535 : Int) < y + dz) = false := by simp; omega
                    have HRL := Lib.hid hrl'
                    clear hrl' hdx
                    go_wp2_with (go_at_call 32; refine (hdig.out _).mono ?_; rintro e w' ⟨rfl, rfl⟩)
                    go_roundw
                    case rel => exact .inl ⟨j + 1, l, y + dz, by omega, by go_num, rfl, by omega, by omega, by omega, HLR.out, HRL, HO.out, HBL.out⟩
                    case measure => simp [intOf]; omega
          · obtain rfl : j = s.size := by omega
            have hle : decide ((s.size : Int) ≤ (s.size : Int)) = true := by simp
            have hrl' := hrl.out
            rw [List.drop_eq_nil_of_le (by rw [Array.length_toList]; exact Nat.le_refl _), rl] at hrl'
            clear hrl
            by_cases hx : x < 0
            · rw [if_pos hx] at hrl'
              have hxd : decide (x < 0) = true := by simpa using hx
              have HRR := Lib.hid (HR.out.below HBL.out HR.out.lt)
              have q := HRR.out.cell
              obtain ⟨q0, q1, q2⟩ := q
              have f0 := HRR.out.free 0
              have f1 := HRR.out.free 1
              have f2 := HRR.out.free 2
              have HWW := Lib.hid (HB.out.trans (HBL.out.mono HB.out.size))
              have HF := Lib.hid (hrl')
              clear hrl'
              go_wp2
              obtain ⟨Z, hZ, hnd, hbz, hoz⟩ := set3 (x0 := .int .u16 0) (x1 := .slice none 0 0) (x2 := .slice none 0 0) HRR.out
              rw [hZ]
              refine bodyPost_ret (v := .tuple #[zeroNode, .bool false]) ?_ rfl ?_
              · rw [results_cellb rfl, show zeroNode = .agg #[.int .u16 0, .slice none 0 0, .slice none 0 0] from rfl]
                simp [asAddr, Result.andThen, hnd.load]
              · exact ⟨.inr ⟨.inl HF.out, rfl⟩, HWW.out.trans hbz⟩
            · rw [if_neg hx] at hrl'
              have hxd : decide (x < 0) = false := by simpa using hx
              have HRL := Lib.hid hrl'
              clear hrl'
              go_wp2_with (at_builtin; refine append_own_any _ rfl _ _ 60 rfl W.heap.size 3 i0 (.int .i64 0) 8 Tryz.underlying60 hi hz0 hz1 hz2 rfl (.slice la l.length lc) _ _ rfl (HO.out.alloc _) _ _ _ [.int .i64 x] rfl (Sl.at _ _ [.int .i64 x] 3 1 rfl rfl (by omega)) (by simp [Value.oneCell']) (by unfold maxLen; omega) (by omega) (by simp; omega) ?_; intro v' w4 hown1 hgrow)
              have hown' := hown1.out
              rw [show l.map (Value.int .i64) ++ [.int .i64 x] = (l ++ [x]).map (Value.int .i64) by simp, show l.length + 1 = (l ++ [x]).length by simp] at hown'
              obtain ⟨a3, c3, hv3, _⟩ := Sl.own hown'
              subst hv3
              have HO4 := Lib.hid hown'
              have HW4 := Lib.hid ((HBL.out.alloc hszl (.cells #[.int .i64 x] 3)).grown hgrow.out (by simp; omega) (fun k' hk' => (HO.out.lt k' hk').1))
              have HLR4 := Lib.hid (show ∀ y ∈ l ++ [x], 0 ≤ y ∧ y ≤ 65535 from fun y hy => by
                rcases List.mem_append.1 hy with hy | hy
                · exact HLR.out y hy
                · rw [List.mem_singleton.1 hy]; omega)
              clear hown' hown1 hgrow
              go_wp2
              go_roundw
              case rel => exact .inr ⟨l ++ [x], by go_num, by simp; omega, HLR4.out, HRL, HO4.out, HW4.out⟩
              case measure => first | (simp [intOf]; done) | (simp [intOf]; omega)
        · have HLR := Lib.hid hlr
          have HBL := Lib.hid hbl
          obtain ⟨la, lc, rfl, hsl⟩ := Ints.own hown
          have HL := Lib.hid hsl
          have hszl := hbl.size
          obtain ⟨S1, hS1⟩ : ∃ S1 : Int, ((s.size + 1 : Nat) : Int) = S1 := ⟨_, rfl⟩
          have hle : decide (S1 ≤ (s.size : Int)) = false := by simp; omega
          rw [hS1]
          clear hS1
          clear hlr hown hbl hsl
          rcases hbb with ⟨rfl, -, rfl, rfl, rfl⟩ | ⟨rfl, -, rfl, rfl, rfl⟩
          · obtain rfl : B = 10 := by rw [← hB]; rfl
            go_wp2
            obtain ⟨W3, hW3⟩ : ∃ W3, W3 = wr.alloc (.cells #[.int .u16 5, .slice none 0 0, .slice none 0 0] 26) := ⟨_, rfl⟩
            rw [← hW3]
            have hs3 : W3.heap.size = wr.heap.size + 1 := by rw [hW3]; simp
            have hb3 : Below wr.heap.size wr W3 := by rw [hW3]; exact (Below.refl _ _).alloc (Nat.le_refl _) _
            have HN3 := Lib.hid (show NdB W3 wr.heap.size (.int .u16 5) (.slice none 0 0) (.slice none 0 0) by rw [hW3]; exact NdB.new _ _ _ _)
            have HL3 := Lib.hid (HL.out.below hb3)
            have HB3 := Lib.hid ((HB.out.trans (HBL.out.mono HB.out.size)).trans (hb3.mono (Nat.le_trans HB.out.size hszl)))
            have HR3 := Lib.hid ((HR.out.below HBL.out HR.out.lt).below hb3 (Nat.lt_of_lt_of_le HR.out.lt hszl))
            have HLR3 := Lib.hid HLR.out
            have HRLL := Lib.hid hrl.out
            have hwlt : w.heap.size < wr.heap.size := by omega
            obtain ⟨NB, hNB⟩ : ∃ NB, wr.heap.size = NB := ⟨_, rfl⟩
            rw [hNB] at HN3 hs3 hwlt ⊢
            obtain ⟨lb, lo, hla, hlc⟩ := HL.out.loc
            rw [hNB] at hlc
            have HLC := Lib.hid (show ∀ j, j < l.length → lb < NB ∧ W3.cell? ⟨lb, lo + j, none⟩ = some (.int .i64 (nth l j)) from fun j hj => ⟨(hlc j hj).1, cell_below hb3 (hlc j hj).2⟩)
            clear hW3 hb3 HL HBL hlc HLR hrl hszl hNB
            obtain ⟨i1, hi1, hy0, hy1, hy2⟩ := info_parts info_u8
            go_loopw [12] (fun i wq => ∃ k : Nat, k ≤ l.length ∧ i = .int .i64 k ∧ ∃ a' c', NdB wq NB (.int .u16 5) (.slice a' (k) c') (.slice none 0 0) ∧ wq.ownsRow (NB + 1) 5 1 (.slice a' (k) c') (k) ((putL 1 (l.take k)).map (Value.int .u8)) ∧ ButN NB (NB + 1) W3 wq) (fun i _ => l.length - (intOf i).toNat)
            case atStart => exact ⟨0, Nat.zero_le _, rfl, none, 0, by simpa using HN3.out, by simpa [putL] using World.ownsRow_nil _ _ _ _, ButN.refl _ _ _⟩
            case round =>
              obtain ⟨k, hk, rfl, a', c', hnd, hown, hbut⟩ := hrel
              have HO := Lib.hid hown
              have HND := Lib.hid hnd
              have HBU := Lib.hid hbut
              have hszq : NB + 1 ≤ wr.heap.size := by have := hbut.size; omega
              clear hown
              by_cases hlt : k < l.length
              · obtain ⟨hlb, hcell⟩ := HLC.out k hlt
                obtain rfl : la = some ⟨lb, lo, none⟩ := hla.resolve_right (by omega)
                obtain ⟨y, hy⟩ : ∃ y, nth l k = y := ⟨_, rfl⟩
                rw [hy] at hcell
                have hc := hbut.cell (p := ⟨lb, lo + k, none⟩) (by show lb < _; omega) (by show lb ≠ _; omega) hcell
                have HCY := Lib.hid hcell
                have hyr := HLR3.out y (hy ▸ nth_mem hlt)
                have HST := Lib.hid (show putL 1 (l.take (k + 1)) = putL 1 (l.take k) ++ be 1 y by rw [putL_take hlt, hy])
                have q := hnd.cell
                obtain ⟨n0, n1, n2⟩ := q
                have f1 := hnd.free 1
                have ht : y.tmod 256 = y % 256 := Int.tmod_eq_emod_of_nonneg hyr.1
                have hq : y.tdiv 256 = y / 256 := Int.tdiv_eq_ediv_of_nonneg hyr.1
                have hw1 : IntKind.u8.wrap (y % 256) = y % 256 := by rw [IntKind.wrap_u8]; omega
                have hw3 : IntKind.i64.wrap (y / 256) = y / 256 := by rw [IntKind.wrap_i64]; omega
                have hw2 : IntKind.u8.wrap (y / 256) = y / 256 := by rw [IntKind.wrap_u8]; omega
                clear hnd hbut hcell hy
                go_wp2
                have ra := (World.cell?_alloc_lt wr (.cells #[.int .u8 (y % 256)] 5) ⟨NB, 1, none⟩ (by show NB < _; omega)).trans n1
                go_region_law (first | (refine step_append_lies _ rfl _ _ 23 rfl (NB + 1) 5 i1 (.int .u8 0) 1 1 Tryz.underlying23 hi1 hy0 hy1 hy2 rfl (by decide) (.slice a' (k) c') (k) ((putL 1 (l.take k)).map (Value.int .u8)) rfl (HO.out.alloc _) ⟨wr.heap.size, 0, none⟩ 1 1 [.int .u8 (y % 256)] rfl rfl (lies1 wr _ _) (by simp [Value.oneCell']) (by decide) (by unfold maxLen; omega) (by omega) (by simp; omega) _ rfl ?_; intro g5 cap5 w5 hown5 hgrow5 hat5 hlt5; have HB5 := Lib.hid ((((Below.refl (NB + 1) wr).alloc hszq _).drew).trans (grow_below hgrow5 (N := NB + 1) (by simp; omega) (fun r hr => (HO.out.lt r hr).1))); have HO5 := Lib.hid hown5; have HN5 := Lib.hid (HND.out.below HB5.out (Nat.lt_succ_self _)); have hz5 := Nat.le_trans hszq HB5.out.size; have c5 := HN5.out.cell.2.1; have f5 := HN5.out.free 1; clear hown5 hgrow5 hat5))
                all_goals
                  have HFN5 := Lib.hid (nd_set1 (u := .slice (some ⟨g5, 0, none⟩) (k + 1) cap5) HN5.out)
                  have HFO5 := Lib.hid (own_set (B := NB) (o := 1) (u := .slice (some ⟨g5, 0, none⟩) (k + 1) cap5) HO5.out (Nat.lt_succ_self _))
                  have HFB5 := Lib.hid ((HBU.out.trans (ButN.of_below HB5.out)).trans (ButN.set NB (NB + 1) 1 w5 (.slice (some ⟨g5, 0, none⟩) (k + 1) cap5)))
                  clear n0 n1 n2 f1 ra c5 f5
                  have hfo := HFO5.out
                  rw [show (putL 1 (l.take k)).map (Value.int .u8) ++ [.int .u8 (y % 256)] = (putL 1 (l.take (k + 1))).map (Value.int .u8) by rw [HST.out, List.map_append, be_one]; rfl] at hfo
                  have HFO6 := Lib.hid hfo
                  clear hfo
                  go_wp2
                  go_roundw
                  case rel => exact ⟨k + 1, by omega, by go_num, _, _, HFN5.out, HFO6.out, HFB5.out⟩
                  case measure => simp [intOf]; omega
              ·
                obtain rfl : k = l.length := by omega
                obtain ⟨n, hn⟩ : ∃ n, l.length = n := ⟨_, rfl⟩
                have hPL : (putL 1 l).length = n := by rw [putL_length (by decide), ← hn]; omega
                rw [List.take_length] at HO
                rw [hn] at HO HND
                have HPL := Lib.hid hPL
                have q := HND.out.cell
                obtain ⟨n0, n1, n2⟩ := q
                have HRW := Lib.hid (show NdB wr w.heap.size (.int .u16 0) (.slice none 0 0) (.slice none 0 0) from (HBU.out.block _ (by omega) (by omega)).trans HR3.out)
                have HWW := Lib.hid (HB3.out.trans (HBU.out.below (Nat.le_of_lt hwlt) (by omega)))
                clear HR3 HB3 HBU HLC HL3 hPL hn
                by_cases hK : n = 4
                · subst hK
                  go_wp2_with (go_at_call 13; refine (is_any9 5 a' _ c' none 0 0 _).mono ?_; rintro e w8 ⟨rfl, hb8⟩; rw [show isB 5 4 0 = true from rfl]; have HO8 := Lib.hid (own_below HO.out hb8); have HR8 := Lib.hid (HRW.out.below hb8 HRW.out.lt); have HN8 := Lib.hid (HND.out.below hb8 HND.out.lt); have HW8 := Lib.hid (HWW.out.trans (hb8.mono HWW.out.size)); have q0 := HR8.out.cell.1; have q1 := HR8.out.cell.2.1; have q2 := HR8.out.cell.2.2; have f0 := HR8.out.free 0; have f1 := HR8.out.free 1; have f2 := HR8.out.free 2; clear n0 n1 n2 hb8; have n0 := HN8.out.cell.1; have n1 := HN8.out.cell.2.1; have n2 := HN8.out.cell.2.2)
                  obtain ⟨Z, hZ, hnz, hbz, hoz⟩ := set3 (x0 := .int .u16 5) (x1 := .slice a' 4 c') (x2 := .slice none 0 0) HR8.out
                  rw [hZ]
                  refine bodyPost_ret (v := .tuple #[ndV 5 a' 4 c' none 0 0, .bool true]) ?_ rfl ?_
                  · rw [results_cellb rfl, show ndV 5 a' 4 c' none 0 0 = .agg #[.int .u16 5, .slice a' 4 c', .slice none 0 0] from rfl]
                    simp [asAddr, Result.andThen, hnz.load]
                  · obtain ⟨a2, c2, hv2, hI⟩ := Ints.own (hoz (by omega) HO8.out)
                    simp only [Value.slice.injEq, true_and] at hv2
                    obtain ⟨rfl, rfl⟩ := hv2
                    exact ⟨.inl ⟨l, HRLL.out, HLR3.out, HPL.out, _, _, rfl, hI⟩, HW8.out.trans hbz⟩
                · have hIs : isB 5 n 0 = false := by simp [isB, hK]
                  go_wp2_with (go_at_call 13; refine (is_any9 5 a' _ c' none 0 0 _).mono ?_; rintro e w8 ⟨rfl, hb8⟩; rw [hIs]; have HR8 := Lib.hid (HRW.out.below hb8 HRW.out.lt); have HW8 := Lib.hid (HWW.out.trans (hb8.mono HWW.out.size)); have q0 := HR8.out.cell.1; have q1 := HR8.out.cell.2.1; have q2 := HR8.out.cell.2.2; have f0 := HR8.out.free 0; have f1 := HR8.out.free 1; have f2 := HR8.out.free 2; clear n0 n1 n2 hb8)
                  obtain ⟨Z, hZ, hnz, hbz, hoz⟩ := set3 (x0 := .int .u16 0) (x1 := .slice none 0 0) (x2 := .slice none 0 0) HR8.out
                  rw [hZ]
                  refine bodyPost_ret (v := .tuple #[zeroNode, .bool false]) ?_ rfl ?_
                  · rw [results_cellb rfl, show zeroNode = .agg #[.int .u16 0, .slice none 0 0, .slice none 0 0] from rfl]
                    simp [asAddr, Result.andThen, hnz.load]
                  · exact ⟨.inr ⟨.inr ⟨l, HRLL.out, by rw [HPL.out]; exact hK⟩, rfl⟩, HW8.out.trans hbz⟩
          · obtain rfl : B = 16 := by rw [← hB]; rfl
            go_wp2
            obtain ⟨W3, hW3⟩ : ∃ W3, W3 = wr.alloc (.cells #[.int .u16 6, .slice none 0 0, .slice none 0 0] 26) := ⟨_, rfl⟩
            rw [← hW3]
            have hs3 : W3.heap.size = wr.heap.size + 1 := by rw [hW3]; simp
            have hb3 : Below wr.heap.size wr W3 := by rw [hW3]; exact (Below.refl _ _).alloc (Nat.le_refl _) _
            have HN3 := Lib.hid (show NdB W3 wr.heap.size (.int .u16 6) (.slice none 0 0) (.slice none 0 0) by rw [hW3]; exact NdB.new _ _ _ _)
            have HL3 := Lib.hid (HL.out.below hb3)
            have HB3 := Lib.hid ((HB.out.trans (HBL.out.mono HB.out.size)).trans (hb3.mono (Nat.le_trans HB.out.size hszl)))
            have HR3 := Lib.hid ((HR.out.below HBL.out HR.out.lt).below hb3 (Nat.lt_of_lt_of_le HR.out.lt hszl))
            have HLR3 := Lib.hid HLR.out
            have HRLL := Lib.hid hrl.out
            have hwlt : w.heap.size < wr.heap.size := by omega
            obtain ⟨NB, hNB⟩ : ∃ NB, wr.heap.size = NB := ⟨_, rfl⟩
            rw [hNB] at HN3 hs3 hwlt ⊢
            obtain ⟨lb, lo, hla, hlc⟩ := HL.out.loc
            rw [hNB] at hlc
            have HLC := Lib.hid (show ∀ j, j < l.length → lb < NB ∧ W3.cell? ⟨lb, lo + j, none⟩ = some (.int .i64 (nth l j)) from fun j hj => ⟨(hlc j hj).1, cell_below hb3 (hlc j hj).2⟩)
            clear hW3 hb3 HL HBL hlc HLR hrl hszl hNB
            obtain ⟨i1, hi1, hy0, hy1, hy2⟩ := info_parts info_u8
            go_loopw [12] (fun i wq => ∃ k : Nat, k ≤ l.length ∧ i = .int .i64 k ∧ ∃ a' c', NdB wq NB (.int .u16 6) (.slice a' (k * 2) c') (.slice none 0 0) ∧ wq.ownsRow (NB + 1) 5 1 (.slice a' (k * 2) c') (k * 2) ((putL 2 (l.take k)).map (Value.int .u8)) ∧ ButN NB (NB + 1) W3 wq) (fun i _ => l.length - (intOf i).toNat)
            case atStart => exact ⟨0, Nat.zero_le _, rfl, none, 0, by simpa using HN3.out, by simpa [putL] using World.ownsRow_nil _ _ _ _, ButN.refl _ _ _⟩
            case round =>
              obtain ⟨k, hk, rfl, a', c', hnd, hown, hbut⟩ := hrel
              have HO := Lib.hid hown
              have HND := Lib.hid hnd
              have HBU := Lib.hid hbut
              have hszq : NB + 1 ≤ wr.heap.size := by have := hbut.size; omega
              clear hown
              by_cases hlt : k < l.length
              · obtain ⟨hlb, hcell⟩ := HLC.out k hlt
                obtain rfl : la = some ⟨lb, lo, none⟩ := hla.resolve_right (by omega)
                obtain ⟨y, hy⟩ : ∃ y, nth l k = y := ⟨_, rfl⟩
                rw [hy] at hcell
                have hc := hbut.cell (p := ⟨lb, lo + k, none⟩) (by show lb < _; omega) (by show lb ≠ _; omega) hcell
                have HCY := Lib.hid hcell
                have hyr := HLR3.out y (hy ▸ nth_mem hlt)
                have HST := Lib.hid (show putL 2 (l.take (k + 1)) = putL 2 (l.take k) ++ be 2 y by rw [putL_take hlt, hy])
                have q := hnd.cell
                obtain ⟨n0, n1, n2⟩ := q
                have f1 := hnd.free 1
                have ht : y.tmod 256 = y % 256 := Int.tmod_eq_emod_of_nonneg hyr.1
                have hq : y.tdiv 256 = y / 256 := Int.tdiv_eq_ediv_of_nonneg hyr.1
                have hw1 : IntKind.u8.wrap (y % 256) = y % 256 := by rw [IntKind.wrap_u8]; omega
                have hw3 : IntKind.i64.wrap (y / 256) = y / 256 := by rw [IntKind.wrap_i64]; omega
                have hw2 : IntKind.u8.wrap (y / 256) = y / 256 := by rw [IntKind.wrap_u8]; omega
                clear hnd hbut hcell hy
                go_wp2
                have ra := (World.cell?_alloc_lt wr (.cells #[.int .u8 (y / 256)] 5) ⟨NB, 1, none⟩ (by show NB < _; omega)).trans n1
                go_region_law (first | (refine step_append_lies _ rfl _ _ 23 rfl (NB + 1) 5 i1 (.int .u8 0) 1 1 Tryz.underlying23 hi1 hy0 hy1 hy2 rfl (by decide) (.slice a' (k * 2) c') (k * 2) ((putL 2 (l.take k)).map (Value.int .u8)) rfl (HO.out.alloc _) ⟨wr.heap.size, 0, none⟩ 1 1 [.int .u8 (y / 256)] rfl rfl (lies1 wr _ _) (by simp [Value.oneCell']) (by decide) (by unfold maxLen; omega) (by omega) (by simp; omega) _ rfl ?_; intro g5 cap5 w5 hown5 hgrow5 hat5 hlt5; have HB5 := Lib.hid ((((Below.refl (NB + 1) wr).alloc hszq _).drew).trans (grow_below hgrow5 (N := NB + 1) (by simp; omega) (fun r hr => (HO.out.lt r hr).1))); have HO5 := Lib.hid hown5; have HN5 := Lib.hid (HND.out.below HB5.out (Nat.lt_succ_self _)); have hz5 := Nat.le_trans hszq HB5.out.size; have c5 := HN5.out.cell.2.1; have f5 := HN5.out.free 1; clear hown5 hgrow5 hat5))
                all_goals
                  have HFN5 := Lib.hid (nd_set1 (u := .slice (some ⟨g5, 0, none⟩) (k * 2 + 1) cap5) HN5.out)
                  have HFO5 := Lib.hid (own_set (B := NB) (o := 1) (u := .slice (some ⟨g5, 0, none⟩) (k * 2 + 1) cap5) HO5.out (Nat.lt_succ_self _))
                  have HFB5 := Lib.hid ((HBU.out.trans (ButN.of_below HB5.out)).trans (ButN.set NB (NB + 1) 1 w5 (.slice (some ⟨g5, 0, none⟩) (k * 2 + 1) cap5)))
                  clear n0 n1 n2 f1 ra c5 f5
                  obtain ⟨V, hV⟩ : ∃ V, w5.setCell ⟨NB, 1, none⟩ (.slice (some ⟨g5, 0, none⟩) (k * 2 + 1) cap5) = V := ⟨_, rfl⟩
                  rw [hV] at HFN5 HFO5 HFB5
                  have hzV : NB + 1 ≤ V.heap.size := by rw [← hV]; simpa using hz5
                  go_wp2
                  try rw [hV]
                  clear hV
                  have q := HFN5.out.cell
                  obtain ⟨n0, n1, n2⟩ := q
                  have f1 := HFN5.out.free 1
                  clear n0 n2 hc
                  have hcV := HFB5.out.cell (p := ⟨lb, lo + k, none⟩) (by show lb < _; omega) (by show lb ≠ _; omega) HCY.out
                  have rb := (World.cell?_alloc_lt V (.cells #[.int .u8 (y % 256)] 5) ⟨NB, 1, none⟩ (by show NB < _; omega)).trans n1
                  go_region_law (first | (refine step_append_lies _ rfl _ _ 23 rfl (NB + 1) 5 i1 (.int .u8 0) 1 1 Tryz.underlying23 hi1 hy0 hy1 hy2 rfl (by decide) (.slice (some ⟨g5, 0, none⟩) (k * 2 + 1) cap5) (k * 2 + 1) ((putL 2 (l.take k)).map (Value.int .u8) ++ [Value.int .u8 (y / 256)]) rfl (HFO5.out.alloc _) ⟨V.heap.size, 0, none⟩ 1 1 [.int .u8 (y % 256)] rfl rfl (lies1 V _ _) (by simp [Value.oneCell']) (by decide) (by unfold maxLen; omega) (by omega) (by simp; omega) _ rfl ?_; intro g7 cap7 w7 hown7 hgrow7 hat7 hlt7; have HB7 := Lib.hid ((((Below.refl (NB + 1) V).alloc hzV _).drew).trans (grow_below hgrow7 (N := NB + 1) (by simp; omega) (fun r hr => (HFO5.out.lt r hr).1))); have HO7 := Lib.hid hown7; have HN7 := Lib.hid (HFN5.out.below HB7.out (Nat.lt_succ_self _)); have hz7 := Nat.le_trans hzV HB7.out.size; have c7 := HN7.out.cell.2.1; have f7 := HN7.out.free 1; clear hown7 hgrow7 hat7))
                  all_goals
                    have HFN7 := Lib.hid (nd_set1 (u := .slice (some ⟨g7, 0, none⟩) (k * 2 + 1 + 1) cap7) HN7.out)
                    have HFO7 := Lib.hid (own_set (B := NB) (o := 1) (u := .slice (some ⟨g7, 0, none⟩) (k * 2 + 1 + 1) cap7) HO7.out (Nat.lt_succ_self _))
                    have HFB7 := Lib.hid ((HFB5.out.trans (ButN.of_below HB7.out)).trans (ButN.set NB (NB + 1) 1 w7 (.slice (some ⟨g7, 0, none⟩) (k * 2 + 1 + 1) cap7)))
                    clear n1 f1 rb c7 f7
                    have hfo := HFO7.out
                    rw [show (putL 2 (l.take k)).map (Value.int .u8) ++ [.int .u8 (y / 256)] ++ [.int .u8 (y % 256)] = (putL 2 (l.take (k + 1))).map (Value.int .u8) by rw [HST.out, List.map_append, be_two hyr.1 hyr.2, List.append_assoc]; rfl] at hfo
                    have HFO8 := Lib.hid hfo
                    clear hfo
                    go_wp2
                    go_roundw
                    case rel => exact ⟨k + 1, by omega, by go_num, some ⟨g7, 0, none⟩, cap7, by rw [show (k + 1) * 2 = k * 2 + 1 + 1 by omega]; exact HFN7.out, by rw [show (k + 1) * 2 = k * 2 + 1 + 1 by omega]; exact HFO8.out, HFB7.out⟩
                    case measure => simp [intOf]; omega
              ·
                obtain rfl : k = l.length := by omega
                obtain ⟨n, hn⟩ : ∃ n, l.length * 2 = n := ⟨_, rfl⟩
                have hPL : (putL 2 l).length = n := by rw [putL_length (by decide), ← hn]
                rw [List.take_length] at HO
                rw [hn] at HO HND
                have HPL := Lib.hid hPL
                have q := HND.out.cell
                obtain ⟨n0, n1, n2⟩ := q
                have HRW := Lib.hid (show NdB wr w.heap.size (.int .u16 0) (.slice none 0 0) (.slice none 0 0) from (HBU.out.block _ (by omega) (by omega)).trans HR3.out)
                have HWW := Lib.hid (HB3.out.trans (HBU.out.below (Nat.le_of_lt hwlt) (by omega)))
                clear HR3 HB3 HBU HLC HL3 hPL hn
                by_cases hK : n = 16
                · subst hK
                  go_wp2_with (go_at_call 13; refine (is_any9 6 a' _ c' none 0 0 _).mono ?_; rintro e w8 ⟨rfl, hb8⟩; rw [show isB 6 16 0 = true from rfl]; have HO8 := Lib.hid (own_below HO.out hb8); have HR8 := Lib.hid (HRW.out.below hb8 HRW.out.lt); have HN8 := Lib.hid (HND.out.below hb8 HND.out.lt); have HW8 := Lib.hid (HWW.out.trans (hb8.mono HWW.out.size)); have q0 := HR8.out.cell.1; have q1 := HR8.out.cell.2.1; have q2 := HR8.out.cell.2.2; have f0 := HR8.out.free 0; have f1 := HR8.out.free 1; have f2 := HR8.out.free 2; clear n0 n1 n2 hb8; have n0 := HN8.out.cell.1; have n1 := HN8.out.cell.2.1; have n2 := HN8.out.cell.2.2)
                  obtain ⟨Z, hZ, hnz, hbz, hoz⟩ := set3 (x0 := .int .u16 6) (x1 := .slice a' 16 c') (x2 := .slice none 0 0) HR8.out
                  rw [hZ]
                  refine bodyPost_ret (v := .tuple #[ndV 6 a' 16 c' none 0 0, .bool true]) ?_ rfl ?_
                  · rw [results_cellb rfl, show ndV 6 a' 16 c' none 0 0 = .agg #[.int .u16 6, .slice a' 16 c', .slice none 0 0] from rfl]
                    simp [asAddr, Result.andThen, hnz.load]
                  · obtain ⟨a2, c2, hv2, hI⟩ := Ints.own (hoz (by omega) HO8.out)
                    simp only [Value.slice.injEq, true_and] at hv2
                    obtain ⟨rfl, rfl⟩ := hv2
                    exact ⟨.inl ⟨l, HRLL.out, HLR3.out, HPL.out, _, _, rfl, hI⟩, HW8.out.trans hbz⟩
                · have hIs : isB 6 n 0 = false := by simp [isB, hK]
                  go_wp2_with (go_at_call 13; refine (is_any9 6 a' _ c' none 0 0 _).mono ?_; rintro e w8 ⟨rfl, hb8⟩; rw [hIs]; have HR8 := Lib.hid (HRW.out.below hb8 HRW.out.lt); have HW8 := Lib.hid (HWW.out.trans (hb8.mono HWW.out.size)); have q0 := HR8.out.cell.1; have q1 := HR8.out.cell.2.1; have q2 := HR8.out.cell.2.2; have f0 := HR8.out.free 0; have f1 := HR8.out.free 1; have f2 := HR8.out.free 2; clear n0 n1 n2 hb8)
                  obtain ⟨Z, hZ, hnz, hbz, hoz⟩ := set3 (x0 := .int .u16 0) (x1 := .slice none 0 0) (x2 := .slice none 0 0) HR8.out
                  rw [hZ]
                  refine bodyPost_ret (v := .tuple #[zeroNode, .bool false]) ?_ rfl ?_
                  · rw [results_cellb rfl, show zeroNode = .agg #[.int .u16 0, .slice none 0 0, .slice none 0 0] from rfl]
                    simp [asAddr, Result.andThen, hnz.load]
                  · exact ⟨.inr ⟨.inr ⟨l, HRLL.out, by rw [HPL.out]; exact hK⟩, rfl⟩, HW8.out.trans hbz⟩
end Go.Proofs.YtmncmbbgdkkgaaaGreatDoor

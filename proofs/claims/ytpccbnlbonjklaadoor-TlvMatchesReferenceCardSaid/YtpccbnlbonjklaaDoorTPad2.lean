/- The contracts of pad.Next, pad.Sizes, pad.Bytes and of their references. -/
import Derived.Test.YtpccbnlbonjklaaDoorTPad
namespace Go.Proofs.YtpccbnlbonjklaaDoor.Pd
set_option maxRecDepth 100000
open Go.RowKit

theorem next_any (a : Option Addr) (n c : Nat) (zs : List Int) (k : Int) (w : World) (hx : Ints .u8 w a n c zs) (hn : n ≤ 2305843009213693952) :
    Calls Tryd.prog 38 #[.slice a n c, .int .i64 k] w fun e w' => e = .returned (.tuple #[.int .i64 (nextN zs k), .bool (nextB zs k)]) ∧ w = w' := by
  have hl1 := hx.len
  have hc1 := hx.cap
  by_cases h0 : k < 0
  · have hb : nextB zs k = false := by simp [nextB]; omega
    have HB := Lib.hid hb
    clear hx hl1 hb
    go_enter Tryd.func38, Tryd.ntmps38
    go_wp2
    go_ret2
    exact ⟨ret_next HB.out (next_no HB.out), rfl⟩
  · obtain ⟨i, rfl⟩ := Int.eq_ofNat_of_zero_le (show 0 ≤ k by omega)
    have hg := gap_bd (i : Int)
    by_cases h1 : i ≤ n
    · by_cases h2 : (i : Int) + gap i ≤ n
      · have d1 : decide (n < i) = false := by simp; omega
        have d2 : decide ((n : Int) < (i : Int) + gap i) = false := by simp; omega
        have hB : nextB zs i = zeros ((zs.take ((i : Int) + gap i).toNat).drop i) := by
          have e1 : decide (i ≤ zs.length) = true := by simp; omega
          have e2 : decide ((i : Int) + gap i ≤ zs.length) = true := by simp; omega
          simp [nextB, e2]
          omega
        have HB := Lib.hid hB
        have HSe := fun he : c = i => Lib.hid (hx.sub_end (lo := i) (hi := ((i : Int) + gap i).toNat) (by omega) (by omega) he)
        have HSn := Lib.hid (hx.sub (lo := i) (hi := ((i : Int) + gap i).toNat) (by omega) (by omega))
        clear hx hl1 hB
        cases hz : zeros ((zs.take ((i : Int) + gap i).toNat).drop i)
        all_goals
          rw [hz] at HB
          have HZ := Lib.hid hz
          clear hz
          by_cases hci : c = i
          · have HS := HSe hci
            clear HSe HSn
            subst hci
            go_enter Tryd.func38, Tryd.ntmps38
            go_wp2_with (first | (go_at_call 44; refine (up_any _ _ (by omega) (by omega)).mono ?_; rintro e w' ⟨rfl, rfl⟩) | (go_at_call 49; refine (zero_any _ _ _ _ _ HS.out).mono ?_; rintro e w' ⟨rfl, rfl⟩; rw [HZ.out]))
            go_ret2
            exact ⟨ret_next HB.out (by first | exact next_yes HB.out | exact next_no HB.out), rfl⟩
          · clear HSe
            go_enter Tryd.func38, Tryd.ntmps38
            go_wp2_with (first | (go_at_call 44; refine (up_any _ _ (by omega) (by omega)).mono ?_; rintro e w' ⟨rfl, rfl⟩) | (go_at_call 49; refine (zero_any _ _ _ _ _ HSn.out).mono ?_; rintro e w' ⟨rfl, rfl⟩; rw [HZ.out]))
            go_ret2
            exact ⟨ret_next HB.out (by first | exact next_yes HB.out | exact next_no HB.out), rfl⟩
      · have hb : nextB zs i = false := by simp [nextB]; omega
        have HB := Lib.hid hb
        have hup := fun w => up_any i w (by omega) (by omega)
        clear hx hl1 hb
        go_enter Tryd.func38, Tryd.ntmps38
        go_wp2_with (go_at_call 44; refine (up_any _ _ (by omega) (by omega)).mono ?_; rintro e w' ⟨rfl, rfl⟩)
        go_ret2
        exact ⟨ret_next HB.out (next_no HB.out), rfl⟩
    · have hb : nextB zs i = false := by simp [nextB]; omega
      have HB := Lib.hid hb
      clear hx hl1 hb
      go_enter Tryd.func38, Tryd.ntmps38
      go_wp2
      go_ret2
      exact ⟨ret_next HB.out (next_no HB.out), rfl⟩
/-! Sizes -/
/-- the size of parts: each with the padding of what stands ahead of it -/
def szs (zs : List Int) : Int := zs.foldl (fun s x => s + gap s + x) 0
theorem szs_snoc (zs : List Int) (x : Int) : szs (zs ++ [x]) = szs zs + gap (szs zs) + x := by simp [szs]
theorem szs_bd (zs : List Int) (B : Nat) (h : ∀ z ∈ zs, 0 ≤ z ∧ z ≤ B) : 0 ≤ szs zs ∧ szs zs ≤ zs.length * (B + 3) := by
  suffices H : ∀ (l : List Int) (s : Int), (∀ z ∈ l, 0 ≤ z ∧ z ≤ B) → 0 ≤ s → 0 ≤ l.foldl (fun s x => s + gap s + x) s ∧ l.foldl (fun s x => s + gap s + x) s ≤ s + l.length * (B + 3) by
    have := H zs 0 h (by omega)
    unfold szs
    omega
  intro l
  induction l with
  | nil => intro s _ hs; simp; omega
  | cons x l ih =>
    intro s hl hs
    have hx := hl x (by simp)
    have hg := gap_bd s
    have := ih (s + gap s + x) (fun z hz => hl z (by simp [hz])) (by omega)
    simp only [List.foldl_cons, List.length_cons]
    have e : ((l.length + 1 : Nat) : Int) * ((B : Int) + 3) = l.length * (B + 3) + (B + 3) := by
      rw [Int.natCast_add, Int.add_mul]; simp
    rw [e]
    omega
theorem szs_take (zs : List Int) {k : Nat} (h : k < zs.length) : szs (zs.take (k + 1)) = szs (zs.take k) + gap (szs (zs.take k)) + nth zs k := by
  rw [take_succ_nth h, szs_snoc]
theorem szs_take_bd (zs : List Int) (k : Nat) (hk : k ≤ 1048576) (h : ∀ z ∈ zs, 0 ≤ z ∧ z ≤ 1048576) : 0 ≤ szs (zs.take k) ∧ szs (zs.take k) ≤ 1099514773504 := by
  have h1 := szs_bd (zs.take k) 1048576 (fun z hz => h z (List.mem_of_mem_take hz))
  refine ⟨h1.1, Int.le_trans h1.2 ?_⟩
  have h2 : (zs.take k).length ≤ 1048576 := Nat.le_trans (List.length_take_le _ _) hk
  have h3 : ((zs.take k).length : Int) * ((1048576 : Nat) + 3) ≤ 1048576 * 1048579 := by
    have := Nat.mul_le_mul_right 1048579 h2
    omega
  omega

theorem sizes1_any (x s : Int) (B : Nat) (w : World) (hc : w.cell? ⟨B, 0, none⟩ = some (.int .i64 s)) (hf : w.frozen? ⟨B, 0, none⟩ = false) (h0 : 0 ≤ s) (h1 : s ≤ 1099514773504) (h2 : 0 ≤ x) (h3 : x ≤ 1099514773504) :
    Calls Tryd.prog 43 #[.int .i64 x, .pointer (some ⟨B, 0, none⟩)] w fun e w' => e = .returned (.tuple #[]) ∧ w.setCell ⟨B, 0, none⟩ (.int .i64 (s + gap s + x)) = w' := by
  have hg := gap_bd s
  go_enter Tryd.func43, Tryd.ntmps43
  go_wp2_with (go_at_call 44; refine (up_any _ _ (by omega) (by omega)).mono ?_; rintro e w' ⟨rfl, rfl⟩)
  go_end0
  exact ⟨rfl, rfl⟩

theorem sizes_any (a : Option Addr) (n c : Nat) (zs : List Int) (w : World) (hx : Ints .i64 w a n c zs) (hn : n ≤ 1048576) (hB : ∀ z ∈ zs, 0 ≤ z ∧ z ≤ 1048576) :
    Calls Tryd.prog 29 #[.slice a n c] w fun e w' => e = .returned (.int .i64 (szs zs)) ∧ Below w.heap.size w w' := by
  have hl1 := hx.len
  have hc1 := hx.cap
  have hnew : (w.alloc (.cells #[.int .i64 0] 3)).cell? ⟨w.heap.size, 0, none⟩ = some (.int .i64 0) := by rw [World.cell?_alloc_at _ _ _ _ rfl]; rfl
  have hfr : (w.alloc (.cells #[.int .i64 0] 3)).frozen? ⟨w.heap.size, 0, none⟩ = false := World.frozen?_alloc_at _ _ _ _ rfl
  have hmf : ∀ (fn : Fn) (first cap : Array Value) (w : World), (Instr.makeFunc fn first cap).run Tryd.prog w = .ok (.func fn first cap) w := fun _ _ _ _ => rfl
  have L1 := Lib.hid hl1
  have HB := Lib.hid hB
  have hb0 : Below w.heap.size w (w.alloc (.cells #[.int .i64 0] 3)) := (Below.refl _ _).alloc (Nat.le_refl _) _
  have HN := Lib.hid hb0
  have hcl := hx.cells
  clear hl1 hB hx hb0
  rcases hcl with ⟨rfl, rfl⟩ | ⟨b1, o1, rfl, hb1, hn0, hcx⟩
  · go_enter Tryd.func29, Tryd.ntmps29
    go_wp2
    go_rounds 1
    all_goals go_ret
    all_goals exact ⟨rfl, HN.out⟩
  · have HX := Lib.hid hcx
    clear hcx
    go_enter Tryd.func29, Tryd.ntmps29
    go_wp2
    go_loopw [6, 10] (fun _ i wr => ∃ k : Nat, k ≤ n ∧ i = .int .i64 k ∧ wr.cell? ⟨w.heap.size, 0, none⟩ = some (.int .i64 (szs (zs.take k))) ∧ wr.frozen? ⟨w.heap.size, 0, none⟩ = false ∧ Below w.heap.size w wr) (fun _ i _ => n - (intOf i).toNat)
    case atStart => exact ⟨0, Nat.zero_le _, rfl, hnew, hfr, HN.out⟩
    case round =>
      obtain ⟨k, hk, rfl, hcs, hfs, hbw⟩ := hrel
      have hsb := szs_take_bd zs k (by omega) HB.out
      have HW := Lib.hid hbw
      by_cases hlt : k < n
      · have h1 : wr.cell? ⟨b1, o1 + k, none⟩ = some (.int .i64 (nth zs k)) := (hbw.cell (p := ⟨b1, o1 + k, none⟩) hb1).trans (HX.out k hlt)
        have hxb := HB.out (nth zs k) (nth_mem (by rw [L1.out]; exact hlt))
        have hst := Lib.hid (szs_take zs (k := k) (by rw [L1.out]; exact hlt))
        have hne : ¬ b1 = w.heap.size := by omega
        clear hbw hnew hfr
        go_wp2_with (go_at_call 43; refine (sizes1_any _ _ _ _ hcs hfs (by omega) (by omega) (by omega) (by omega)).mono ?_; rintro e w' ⟨rfl, rfl⟩)
        go_roundw
        case rel =>
          refine ⟨k + 1, by omega, by go_num, ?_, ?_, HW.out.setCell (Nat.le_refl _) _⟩
          · rw [hst.out]; exact World.cell?_setCell_same' _ _ _ (by rw [hcs]; rfl)
          · rw [World.frozen?_setCell]; exact hfs
        case measure => simp [intOf]; omega
      · have hkn : k = n := by omega
        have he : Hid (zs.take k = zs) := List.take_of_length_le (by rw [L1.out]; omega)
        clear hbw hnew hfr hkn
        go_wp2
        go_ret
        exact ⟨ret_int (by rw [he.out]), HW.out⟩

end Go.Proofs.YtpccbnlbonjklaaDoor.Pd

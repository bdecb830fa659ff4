/- poly.Add of two polynomials. -/
import Derived.Test.YtadlmefdkpbflaaPoly5
namespace Go.Proofs.Ytadlmefdkpbflaa
open Go.RowKit

theorem info_poly : (Try.prog.info? 24).map (fun i => (i.zero, i.size, i.bytes)) = some (some (.slice none 0 0), 1, 24) := by kernel_rfl

def parts2 (A B : Part) (j : Nat) : Part := if j = 0 then A else B
def xor2 (x y : Nat) : Nat → Nat
  | 0 => 0
  | 1 => x
  | _ => x ^^^ y
theorem xor2_succ (zs : List Int) (P : Part) (a : Option Addr) (n c j : Nat) (hj : j < 2) : xor2 (toN zs) (toN P.zs) (j + 1) = xor2 (toN zs) (toN P.zs) j ^^^ toN (parts2 ⟨a, n, c, zs⟩ P j).zs := by
  have h : j = 0 ∨ j = 1 := by omega
  rcases h with rfl | rfl
  · show toN zs = 0 ^^^ toN zs
    simp
  · rfl
theorem own_one (w : World) (v : Value) (e : TypeId) : (w.alloc (.cells #[v] e)).ownsRow w.heap.size e 1 (.slice (some ⟨w.heap.size, 0, none⟩) 1 1) 1 [v] :=
  ⟨rfl, .inr ⟨w.heap.size, 1, #[v], rfl, Nat.le_refl _, by show (w.heap.push _)[w.heap.size]? = _; simp, Nat.le_refl _, by unfold maxLen; omega, rfl, rfl⟩⟩
theorem own_ge2 {w : World} {base : Nat} {e : TypeId} {a : Option Addr} {n m c : Nat} {xs : List Value} (h : w.ownsRow base e 1 (.slice a n c) m xs) : ∀ x, a = some x → base ≤ x.block := by
  intro x hx
  subst hx
  rcases h.2 with ⟨h1, _⟩ | ⟨g, cap, cur, h1, hg, h2, _⟩
  · cases h1
  · cases h1; exact hg

/-- blocks other than b lie as they lay -/
structure But (b : Nat) (w w' : World) : Prop where
  os : w'.os = w.os
  tape : w'.tape = w.tape
  output : w'.output = w.output
  size : w.heap.size ≤ w'.heap.size
  block : ∀ k, k < w.heap.size → k ≠ b → w'.heap[k]? = w.heap[k]?
theorem But.refl (b : Nat) (w : World) : But b w w := ⟨rfl, rfl, rfl, Nat.le_refl _, fun _ _ _ => rfl⟩
theorem But.set {b : Nat} {w w' : World} (h : But b w w') (o : Nat) (v : Value) : But b w (w'.setCell ⟨b, o, none⟩ v) :=
  ⟨h.os, h.tape, h.output, by simpa [World.setCell] using h.size, fun k hk hb => (Below.heap_setCell _ _ _ _ hb).trans (h.block k hk hb)⟩
theorem But.below {b B : Nat} {w w' : World} (h : But b w w') (hB : B ≤ b) (hs : B ≤ w.heap.size) : Below B w w' :=
  ⟨h.os, h.tape, h.output, h.size, fun k hk => h.block k (by omega) (by omega)⟩
theorem But.cell {b : Nat} {w w' : World} (h : But b w w') {p : Addr} {v : Value} (hp : p.block ≠ b) (hc : w.cell? p = some v) : w'.cell? p = some v := by
  have h2 := h.block p.block (lt_of_cell hc) hp
  unfold World.cell? at hc ⊢
  rw [h2]; exact hc

set_option maxHeartbeats 8000000 in
theorem add_any (a al : Option Addr) (n c cl : Nat) (zs : List Int) (P : Part) (w : World) (hx : Ints .u8 w a n c zs) (hB : Byt zs) (hp : Parts w al 1 cl [P]) (hn : n ≤ 1073741824) (hm : P.n ≤ 1073741824) :
    Calls Try.prog 12 #[.slice a n c, .slice al 1 cl] w fun e w' => ∃ g, e = .returned (.slice (some ⟨g, 0, none⟩) (sz (toN zs ^^^ toN P.zs)) (sz (toN zs ^^^ toN P.zs))) ∧ w.heap.size ≤ g ∧ Blk w' g (ofN (toN zs ^^^ toN P.zs)) ∧ Below w.heap.size w w' := by
  obtain ⟨i0, hi, hz0, hz1, hz2⟩ := info_parts info_u8
  obtain ⟨i1, hi1, hy0, hy1, hy2⟩ := info_parts info_poly
  have hcc := hx.cap
  have HX := Lib.hid hx
  have HB := Lib.hid hB
  have HL := Lib.hid hx.len
  have hpi := (hp.2 P (by simp)).1
  have HPI := Lib.hid hpi
  have HPB := Lib.hid ((hp.2 P (by simp)).2)
  have hpc := hpi.cap
  have hcl : 1 ≤ cl ∧ cl ≤ 9223372036854775807 := ⟨hp.1.2.1, hp.1.2.2.1⟩
  have HP := Lib.hid hp
  obtain ⟨b0, o0, rfl, hb0, h0⟩ : ∃ b off, al = some ⟨b, off, none⟩ ∧ b < w.heap.size ∧ w.cell? ⟨b, off, none⟩ = some (.slice P.a P.n P.c) := by
    rcases hp.cells with ⟨h, _⟩ | ⟨b, off, h1, h2, _, h3⟩
    · cases h
    · exact ⟨b, off, h1, h2, by simpa [prt] using h3 0 (by omega)⟩
  obtain ⟨M, hM, hMn, hMm⟩ : ∃ M, M = max n P.n ∧ n ≤ M ∧ P.n ≤ M := ⟨_, rfl, by omega, by omega⟩
  have hM2 : M ≤ 1073741824 := by omega
  clear hx hB hpi hp
  by_cases hlt : n < P.n
  · clear hM
    go_enter Try.func12, Try.ntmps12
    go_wp2
    refine wp_loop_rounds 2 ?_
    rw [rounds_succ]
    go_wp2
    rw [rounds_succ]
    go_wp2_with (first | (at_make; refine wpList_make_full _ rfl _ _ 24 rfl w.heap.size 5 i0 (.int .u8 0) 1 Try.underlying24 hi hz0 hz1 .i64 .i64 _ _ P.n rfl rfl rfl rfl (by rw [hz2]; omega) (by unfold maxLen; omega) (Nat.le_refl _) ?_; intro w2 hown hgrow; rw [zeros_cells] at hown; have HBW := Lib.hid (below_grown hgrow rfl); have HK := Lib.hid (blk_of_own hown); have hs2 := hgrow.size; have hgl := HK.out.lt; have HSL := Lib.hid ((HP.out.1.below HBW.out).below ((Below.refl _ w2).alloc (Nat.le_refl _) (.cells #[.slice a n c] 24))); have HO2 := Lib.hid (own_one w2 (.slice a n c) 24); clear hown hgrow) | (at_builtin; refine append_own_any _ rfl _ _ 50 rfl w2.heap.size 24 i1 (.slice none 0 0) 24 Try.underlying50 hi1 hy0 hy1 hy2 rfl (.slice (some ⟨w2.heap.size, 0, none⟩) 1 1) _ _ rfl HO2.out _ _ _ _ rfl HSL.out (by intro u hu; simp at hu; subst hu; rfl) (by unfold maxLen; omega) (by omega) (by simp) ?_; intro v3 w3 HO3 hgrow3; obtain ⟨a3, c3, hv3, hs3⟩ := Sl.own HO3.out; subst hv3; have HB3 := Lib.hid (((Below.refl _ w2).alloc (Nat.le_refl _) (.cells #[.slice a n c] 24)).grown hgrow3.out (by simp) (fun k' hk' => by cases hk'; exact Nat.le_refl _)); have HS3 := Lib.hid hs3; have HGE := Lib.hid (own_ge2 HO3.out); clear hgrow3 HO3 hs3))
    obtain ⟨b3, o3, ha3, _, hc3⟩ := HS3.out.2.2.2.2 (by omega)
    subst ha3
    have hb3 : w2.heap.size ≤ b3 := HGE.out _ rfl
    have hcc3 : (2 : Nat) ≤ c3 ∧ c3 ≤ 9223372036854775807 := ⟨HS3.out.2.1, HS3.out.2.2.1⟩
    have hq : ∀ j, j < 2 → w3.cell? ⟨b3, o3 + j, none⟩ = some (.slice (parts2 ⟨a, n, c, zs⟩ P j).a (parts2 ⟨a, n, c, zs⟩ P j).n (parts2 ⟨a, n, c, zs⟩ P j).c) := fun j hj => by
      have h : j = 0 ∨ j = 1 := by omega
      rcases h with rfl | rfl
      · exact hc3 0 _ rfl
      · exact hc3 1 _ rfl
    have hqi : ∀ j, Ints .u8 w (parts2 ⟨a, n, c, zs⟩ P j).a (parts2 ⟨a, n, c, zs⟩ P j).n (parts2 ⟨a, n, c, zs⟩ P j).c (parts2 ⟨a, n, c, zs⟩ P j).zs ∧ Byt (parts2 ⟨a, n, c, zs⟩ P j).zs ∧ (parts2 ⟨a, n, c, zs⟩ P j).n ≤ P.n := fun j => by
      unfold parts2
      split
      · exact ⟨HX.out, HB.out, by show n ≤ _; omega⟩
      · exact ⟨HPI.out, HPB.out, by omega⟩
    have HQ := Lib.hid hq
    have HQI := Lib.hid hqi
    have HK3 := Lib.hid (HK.out.below HB3.out)
    have HBW3 := Lib.hid (HBW.out.trans (HB3.out.mono hs2))
    have hs23 := HB3.out.size
    clear hq hqi hc3 HS3 HGE HB3 HK HO2 HSL
    go_wp2
    go_loopw [33] (fun i wr => ∃ j : Nat, j ≤ 2 ∧ i = .int .i64 j ∧ But w.heap.size w3 wr ∧ ∃ ys, Blk wr w.heap.size ys ∧ ys.length = P.n ∧ Byt ys ∧ toN ys = xor2 (toN zs) (toN P.zs) j) (fun i _ => 2 - (intOf i).toNat)
    case atStart => exact ⟨0, Nat.zero_le _, rfl, But.refl _ _, _, HK3.out, by simp, Byt.replicate _, by rw [toN_zeros]; rfl⟩
    case round =>
      clear HK3
      obtain ⟨j, hj, rfl, hbut, ys, hk, hyl, hyb, hys⟩ := hrel
      have HBu := Lib.hid hbut
      have HK := Lib.hid hk
      have HY := Lib.hid hys
      have HYL := Lib.hid hyl
      have HYB := Lib.hid hyb
      clear hbut hk hys hyl hyb
      by_cases hj2 : j < 2
      · have hcj := HBu.out.cell (p := ⟨b3, o3 + j, none⟩) (show b3 ≠ w.heap.size by omega) (HQ.out j hj2)
        have hqj := HQI.out j
        have hxs := Lib.hid (xor2_succ zs P a n c j hj2)
        obtain ⟨q, hqe⟩ : ∃ q, q = parts2 ⟨a, n, c, zs⟩ P j := ⟨_, rfl⟩
        rw [← hqe] at hcj hqj hxs
        obtain ⟨hq1, hq2, hq3⟩ := hqj
        have hqc := hq1.cap
        have HQL := Lib.hid hq1.len
        have HQB := Lib.hid hq2
        obtain ⟨b4, o4, ha4, hc4⟩ := hq1.loc
        have HC4 := Lib.hid hc4
        clear hqe hq1 hq2 hc4
        go_wp2
        go_loopw [39] (fun i wr => ∃ k : Nat, k ≤ q.n ∧ i = .int .i64 k ∧ But w.heap.size w3 wr ∧ ∃ ys, Blk wr w.heap.size ys ∧ ys.length = P.n ∧ Byt ys ∧ toN ys = xor2 (toN zs) (toN P.zs) j ^^^ toN (q.zs.take k)) (fun i _ => q.n - (intOf i).toNat)
        case atStart => exact ⟨0, Nat.zero_le _, rfl, HBu.out, ys, HK.out, HYL.out, HYB.out, by rw [HY.out]; simp [toN]⟩
        case round =>
          clear HK HBu HY HYL HYB hcj
          obtain ⟨k, hk0, rfl, hbut, ys, hk, hyl, hyb, hys⟩ := hrel
          have HBu := Lib.hid hbut
          have HK := Lib.hid hk
          have HY := Lib.hid hys
          have HYL := Lib.hid hyl
          have HYB := Lib.hid hyb
          clear hbut hk hys hyl hyb
          by_cases hkm : k < q.n
          · have ha5 : q.a = some ⟨b4, o4, none⟩ := by rcases ha4 with h | h; exact h; exact absurd h (by omega)
            have h1 := ((HBW3.out.trans (HBu.out.below (B := w.heap.size) (Nat.le_refl _) (by omega))).cell (p := ⟨b4, o4 + k, none⟩) (HC4.out k hkm).1).trans (HC4.out k hkm).2
            have h2 := HK.out.cell (i := k) (by rw [HYL.out]; omega)
            have h3 := HK.out.frozen k
            have hz2 := HQB.out.nth k
            have hy2 := HYB.out.nth k
            obtain ⟨v, hv, hv0, hv1, hv2⟩ := xor_byte hy2.1 hy2.2 hz2.1 hz2.2
            have hts2 := Lib.hid (toN_take_succ (zs := q.zs) (i := k) (by rw [HQL.out]; exact hkm))
            have hst := Lib.hid (toN_set_xor (zs := ys) (i := k) (v := v) (b := decide (nth q.zs k % 2 = 1)) (by rw [HYL.out]; omega) (bool_step hv2))
            clear hv2 ha4
            go_wp2
            go_roundw
            case rel => exact ⟨k + 1, by omega, by go_num, HBu.out.set k _, _, HK.out.set k v, by simp [HYL.out], byt_set HYB.out hv0 hv1, by rw [hst.out, HY.out, hts2.out, Nat.xor_assoc]⟩
            case measure => simp [intOf]; omega
          · have hkq : k = q.n := by omega
            have HKQ := Lib.hid hkq
            clear ha4
            go_wp2
            go_roundw
            case rel => exact ⟨j + 1, by omega, by go_num, HBu.out, ys, HK.out, HYL.out, HYB.out, by rw [HY.out, List.take_of_length_le (by rw [HQL.out, HKQ.out]; exact Nat.le_refl _), ← hxs.out]⟩
            case measure => simp [intOf]; omega
      · obtain rfl : j = 2 := by omega
        have hbw := HBW3.out.trans (HBu.out.below (B := w.heap.size) (Nat.le_refl _) (by omega))
        have HBr := Lib.hid hbw
        have hsr := hbw.size
        have he : toN ys = toN zs ^^^ toN P.zs := HY.out
        have HE := Lib.hid he
        clear he HY hbw
        go_wp2_with fail
        refine (reduce_any _ _ _ ys _ (HK.out.ints HYL.out (by omega)) HYB.out (by omega)).mono ?_
        rintro e w4 ⟨g, rfl, hg, hk4, hb4⟩
        rw [HE.out] at hk4 ⊢
        have HK4 := Lib.hid hk4
        have HB4 := Lib.hid (HBr.out.trans (hb4.mono hsr))
        clear hk4 hb4
        go_wp2
        go_ret
        exact ⟨_, rfl, by omega, HK4.out, HB4.out⟩
  · clear hM
    go_enter Try.func12, Try.ntmps12
    go_wp2
    refine wp_loop_rounds 2 ?_
    rw [rounds_succ]
    go_wp2
    rw [rounds_succ]
    go_wp2_with (first | (at_make; refine wpList_make_full _ rfl _ _ 24 rfl w.heap.size 5 i0 (.int .u8 0) 1 Try.underlying24 hi hz0 hz1 .i64 .i64 _ _ n rfl rfl rfl rfl (by rw [hz2]; omega) (by unfold maxLen; omega) (Nat.le_refl _) ?_; intro w2 hown hgrow; rw [zeros_cells] at hown; have HBW := Lib.hid (below_grown hgrow rfl); have HK := Lib.hid (blk_of_own hown); have hs2 := hgrow.size; have hgl := HK.out.lt; have HSL := Lib.hid ((HP.out.1.below HBW.out).below ((Below.refl _ w2).alloc (Nat.le_refl _) (.cells #[.slice a n c] 24))); have HO2 := Lib.hid (own_one w2 (.slice a n c) 24); clear hown hgrow) | (at_builtin; refine append_own_any _ rfl _ _ 50 rfl w2.heap.size 24 i1 (.slice none 0 0) 24 Try.underlying50 hi1 hy0 hy1 hy2 rfl (.slice (some ⟨w2.heap.size, 0, none⟩) 1 1) _ _ rfl HO2.out _ _ _ _ rfl HSL.out (by intro u hu; simp at hu; subst hu; rfl) (by unfold maxLen; omega) (by omega) (by simp) ?_; intro v3 w3 HO3 hgrow3; obtain ⟨a3, c3, hv3, hs3⟩ := Sl.own HO3.out; subst hv3; have HB3 := Lib.hid (((Below.refl _ w2).alloc (Nat.le_refl _) (.cells #[.slice a n c] 24)).grown hgrow3.out (by simp) (fun k' hk' => by cases hk'; exact Nat.le_refl _)); have HS3 := Lib.hid hs3; have HGE := Lib.hid (own_ge2 HO3.out); clear hgrow3 HO3 hs3))
    obtain ⟨b3, o3, ha3, _, hc3⟩ := HS3.out.2.2.2.2 (by omega)
    subst ha3
    have hb3 : w2.heap.size ≤ b3 := HGE.out _ rfl
    have hcc3 : (2 : Nat) ≤ c3 ∧ c3 ≤ 9223372036854775807 := ⟨HS3.out.2.1, HS3.out.2.2.1⟩
    have hq : ∀ j, j < 2 → w3.cell? ⟨b3, o3 + j, none⟩ = some (.slice (parts2 ⟨a, n, c, zs⟩ P j).a (parts2 ⟨a, n, c, zs⟩ P j).n (parts2 ⟨a, n, c, zs⟩ P j).c) := fun j hj => by
      have h : j = 0 ∨ j = 1 := by omega
      rcases h with rfl | rfl
      · exact hc3 0 _ rfl
      · exact hc3 1 _ rfl
    have hqi : ∀ j, Ints .u8 w (parts2 ⟨a, n, c, zs⟩ P j).a (parts2 ⟨a, n, c, zs⟩ P j).n (parts2 ⟨a, n, c, zs⟩ P j).c (parts2 ⟨a, n, c, zs⟩ P j).zs ∧ Byt (parts2 ⟨a, n, c, zs⟩ P j).zs ∧ (parts2 ⟨a, n, c, zs⟩ P j).n ≤ n := fun j => by
      unfold parts2
      split
      · exact ⟨HX.out, HB.out, by show n ≤ _; omega⟩
      · exact ⟨HPI.out, HPB.out, by omega⟩
    have HQ := Lib.hid hq
    have HQI := Lib.hid hqi
    have HK3 := Lib.hid (HK.out.below HB3.out)
    have HBW3 := Lib.hid (HBW.out.trans (HB3.out.mono hs2))
    have hs23 := HB3.out.size
    clear hq hqi hc3 HS3 HGE HB3 HK HO2 HSL
    go_wp2
    go_loopw [33] (fun i wr => ∃ j : Nat, j ≤ 2 ∧ i = .int .i64 j ∧ But w.heap.size w3 wr ∧ ∃ ys, Blk wr w.heap.size ys ∧ ys.length = n ∧ Byt ys ∧ toN ys = xor2 (toN zs) (toN P.zs) j) (fun i _ => 2 - (intOf i).toNat)
    case atStart => exact ⟨0, Nat.zero_le _, rfl, But.refl _ _, _, HK3.out, by simp, Byt.replicate _, by rw [toN_zeros]; rfl⟩
    case round =>
      clear HK3
      obtain ⟨j, hj, rfl, hbut, ys, hk, hyl, hyb, hys⟩ := hrel
      have HBu := Lib.hid hbut
      have HK := Lib.hid hk
      have HY := Lib.hid hys
      have HYL := Lib.hid hyl
      have HYB := Lib.hid hyb
      clear hbut hk hys hyl hyb
      by_cases hj2 : j < 2
      · have hcj := HBu.out.cell (p := ⟨b3, o3 + j, none⟩) (show b3 ≠ w.heap.size by omega) (HQ.out j hj2)
        have hqj := HQI.out j
        have hxs := Lib.hid (xor2_succ zs P a n c j hj2)
        obtain ⟨q, hqe⟩ : ∃ q, q = parts2 ⟨a, n, c, zs⟩ P j := ⟨_, rfl⟩
        rw [← hqe] at hcj hqj hxs
        obtain ⟨hq1, hq2, hq3⟩ := hqj
        have hqc := hq1.cap
        have HQL := Lib.hid hq1.len
        have HQB := Lib.hid hq2
        obtain ⟨b4, o4, ha4, hc4⟩ := hq1.loc
        have HC4 := Lib.hid hc4
        clear hqe hq1 hq2 hc4
        go_wp2
        go_loopw [39] (fun i wr => ∃ k : Nat, k ≤ q.n ∧ i = .int .i64 k ∧ But w.heap.size w3 wr ∧ ∃ ys, Blk wr w.heap.size ys ∧ ys.length = n ∧ Byt ys ∧ toN ys = xor2 (toN zs) (toN P.zs) j ^^^ toN (q.zs.take k)) (fun i _ => q.n - (intOf i).toNat)
        case atStart => exact ⟨0, Nat.zero_le _, rfl, HBu.out, ys, HK.out, HYL.out, HYB.out, by rw [HY.out]; simp [toN]⟩
        case round =>
          clear HK HBu HY HYL HYB hcj
          obtain ⟨k, hk0, rfl, hbut, ys, hk, hyl, hyb, hys⟩ := hrel
          have HBu := Lib.hid hbut
          have HK := Lib.hid hk
          have HY := Lib.hid hys
          have HYL := Lib.hid hyl
          have HYB := Lib.hid hyb
          clear hbut hk hys hyl hyb
          by_cases hkm : k < q.n
          · have ha5 : q.a = some ⟨b4, o4, none⟩ := by rcases ha4 with h | h; exact h; exact absurd h (by omega)
            have h1 := ((HBW3.out.trans (HBu.out.below (B := w.heap.size) (Nat.le_refl _) (by omega))).cell (p := ⟨b4, o4 + k, none⟩) (HC4.out k hkm).1).trans (HC4.out k hkm).2
            have h2 := HK.out.cell (i := k) (by rw [HYL.out]; omega)
            have h3 := HK.out.frozen k
            have hz2 := HQB.out.nth k
            have hy2 := HYB.out.nth k
            obtain ⟨v, hv, hv0, hv1, hv2⟩ := xor_byte hy2.1 hy2.2 hz2.1 hz2.2
            have hts2 := Lib.hid (toN_take_succ (zs := q.zs) (i := k) (by rw [HQL.out]; exact hkm))
            have hst := Lib.hid (toN_set_xor (zs := ys) (i := k) (v := v) (b := decide (nth q.zs k % 2 = 1)) (by rw [HYL.out]; omega) (bool_step hv2))
            clear hv2 ha4
            go_wp2
            go_roundw
            case rel => exact ⟨k + 1, by omega, by go_num, HBu.out.set k _, _, HK.out.set k v, by simp [HYL.out], byt_set HYB.out hv0 hv1, by rw [hst.out, HY.out, hts2.out, Nat.xor_assoc]⟩
            case measure => simp [intOf]; omega
          · have hkq : k = q.n := by omega
            have HKQ := Lib.hid hkq
            clear ha4
            go_wp2
            go_roundw
            case rel => exact ⟨j + 1, by omega, by go_num, HBu.out, ys, HK.out, HYL.out, HYB.out, by rw [HY.out, List.take_of_length_le (by rw [HQL.out, HKQ.out]; exact Nat.le_refl _), ← hxs.out]⟩
            case measure => simp [intOf]; omega
      · obtain rfl : j = 2 := by omega
        have hbw := HBW3.out.trans (HBu.out.below (B := w.heap.size) (Nat.le_refl _) (by omega))
        have HBr := Lib.hid hbw
        have hsr := hbw.size
        have he : toN ys = toN zs ^^^ toN P.zs := HY.out
        have HE := Lib.hid he
        clear he HY hbw
        go_wp2_with fail
        refine (reduce_any _ _ _ ys _ (HK.out.ints HYL.out (by omega)) HYB.out (by omega)).mono ?_
        rintro e w4 ⟨g, rfl, hg, hk4, hb4⟩
        rw [HE.out] at hk4 ⊢
        have HK4 := Lib.hid hk4
        have HB4 := Lib.hid (HBr.out.trans (hb4.mono hsr))
        clear hk4 hb4
        go_wp2
        go_ret
        exact ⟨_, rfl, by omega, HK4.out, HB4.out⟩

end Go.Proofs.Ytadlmefdkpbflaa

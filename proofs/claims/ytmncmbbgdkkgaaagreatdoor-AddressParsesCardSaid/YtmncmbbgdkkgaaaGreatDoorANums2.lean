/- wire.Numbers: the numbers in bytes, collected. -/
import Derived.Test.YtmncmbbgdkkgaaaGreatDoorANums
import Derived.Maps.AppendAt
namespace Go.Proofs.YtmncmbbgdkkgaaaGreatDoor
set_option maxRecDepth 100000
open Go.RowKit Go.Shelf

theorem info_u32 : (Tryz.prog.info? 56).map (fun i => (i.zero, i.size, i.bytes)) = some (some (.int .u32 0), 1, 4) := by kernel_rfl

theorem kf_appended {T : List TypeId} {B1 : Nat} {W w1 : World} {n₀ B : Nat} {t e : TypeId} {size : Nat} {v v' : Value} {k : Nat} {xs : List Value} {tmp : Obj}
    (hv : Boxed W B t v) (hrow : W.ownsRow n₀ e size v k xs) (hgrow : (W.alloc tmp).grownBy w1 v.ownBlock) (hT : T.contains e = false) (hB : B < B1) : KF T B1 W (w1.setCell ⟨B, 0, none⟩ v') := by
  refine ((KF.alloc W tmp).trans (KF.grown hgrow fun j ej => .inr ?_)).trans (KF.setCell _ _ _ hB)
  rcases (hrow.alloc tmp).2 with ⟨rfl, _⟩ | ⟨g, cap, cur, rfl, _, hgb, _⟩
  · simp [Value.ownBlock] at ej
  · obtain rfl : g = j := by simpa [Value.ownBlock] using ej
    exact ⟨_, hgb, hT⟩

section
attribute [local go_sem] Oper.semAt_some
set_option maxRecDepth 100000 in
set_option maxHeartbeats 4000000 in
theorem appendSeq_in (n : Nat) (gf : Nat) (lb : Array Value) (f : Nat → Int) (A : Nat → Prop) (N : Nat) (w : World) (eg : ∀ args w, (callFunc gf args).run Tryz.prog w = .ok (.enter gf args) w)
    (hseq : SeqN [103, 23, 3] (n - 1) Tryz.prog gf lb (fun j => #[.int .u32 (f j)]) A N w) (hA : ∀ x, A x → x < w.heap.size) (hN : N ≤ 35184372088831) :
    CallsIn Fence.wide n Tryz.prog 70 #[.slice none 0 0, .func (.func gf) #[] lb] w fun e W' => ∃ v, e = .returned v ∧ W'.ownsRow w.heap.size 56 1 v N ((List.range N).map fun j => .int .u32 (f j)) ∧ Below w.heap.size w W' := by
  obtain ⟨i0, hi, hz0, hz1, hz2⟩ := info_parts info_u32
  refine callsIn_of_wp_marks Tryz.func70 rfl trivial ?_ rfl
  simp only [Tryz.ntmps70, List.size_toArray, List.length_cons, List.length_nil, Nat.reduceAdd, Nat.reduceSub, Array.replicate_succ, Array.replicate_zero, List.push_toArray, List.append_toArray, List.nil_append, List.cons_append]
  have EG := Lib.hid eg
  have HS := Lib.hid hseq
  have HA := Lib.hid hA
  clear eg hseq hA
  gi_wp2
  have bO := Boxed.new w 64 (.slice none 0 0)
  have hB0 : Below w.heap.size w (w.alloc (.cells #[.slice none 0 0] 64)) := (Below.refl _ w).alloc (Nat.le_refl _) _
  refine wp_rangeN (n := n) (gf := gf) (lb := lb) rfl EG.out HS.out hB0 (fun k hk => Nat.lt_of_lt_of_le (HA.out k hk) hB0.size) (fun _ => rfl)
    (fun j W => (∃ v, Boxed W w.heap.size 64 v ∧ W.ownsRow w.heap.size 56 1 v j ((List.range j).map fun j => .int .u32 (f j)) ∧ True) ∧ Below w.heap.size w W)
    (fun _ _ _ => False)
    (OwnFrom.and (Own.from (holdsRow_own (β := Nat) w.heap.size w.heap.size 64 56 1 (fun j => j) (fun j => (List.range j).map fun j => .int .u32 (f j)) (fun _ _ => True)) _) (ownFrom_below (Nat.le_refl _) (by simp)))
    (fun _ _ _ _ _ hs _ _ => hs)
    ⟨⟨_, bO, World.ownsRow_nil _ _ _ _, trivial⟩, hB0⟩
    (fun j => { tmps := #[.slice none 0 0, .func (.func gf) #[] lb, .pointer (some ⟨w.heap.size, 0, none⟩), undef, .slice none 0 0, .int .u32 (f j), .func (.func gf) #[] lb, .int .u32 (f j), undef, undef, undef, undef, undef], defers := [] }) ?assign ?body ?done ?stop
  case assign =>
    intro l j W K hK
    gi_wp2
    exact hK
  case body =>
    rintro l j W hl hl' hj ⟨⟨v, hv, hrow, -⟩, hB⟩
    have hc := hv.cell
    gi_wp2_with (gi_at_builtin; refine wpListIn_append_own _ rfl _ _ 64 rfl w.heap.size 56 i0 (.int .u32 0) 1 4 Tryz.underlying64 hi hz0 hz1 hz2 rfl (by decide) _ _ _ rfl (hrow.alloc _) ⟨W.heap.size, 0, none⟩ 1 1 [.int .u32 (f j)] rfl rfl (cell_one_new _ _ _) (by simp [Value.oneCell']) (by unfold maxLen; omega) (by omega) (by have := hB.size; simp; omega) ?_; intro v' w1 hown' hgrow _; obtain ⟨g', cap', rfl⟩ := ownsRow_succ hown'; obtain ⟨hv1, hv2, hr2, hk2, hb2⟩ := hv.appended (by decide) hrow hB.size (Nat.le_refl _) hown' hgrow; have hc1 := hv1.cell; have hf1 := hv1.frozen; have hkf := kf_appended (T := [103, 23, 3]) (B1 := w.heap.size + 1) (v' := .slice (some ⟨g', 0, none⟩) (j + 1) cap') hv hrow hgrow rfl (by omega))
    exact ⟨by simpa using hkf, SameA.of_below hb2 HA.out, ⟨_, hv2, by simpa [List.range_succ] using hr2, trivial⟩, hB.trans hb2⟩
  case done =>
    rintro D W hD ⟨⟨v, hv, hrow, -⟩, hB⟩ hK
    have hc := hv.cell
    gi_wp2
    refine ⟨by simp, .inl ⟨_, _, rfl, run_takeDeferred hK, ?_⟩⟩
    exact ⟨_, results_tmp rfl _ _ _, v, rfl, ownsRow_putObj hrow _ hK rfl, hB.trans (belowK_b (w := w) (Nat.le_refl _) W D _ _ (by simp at hD; omega) hK rfl rfl)⟩
  case stop =>
    rintro D c j W _ _ h _
    exact h.elim
end

/-- the numbers of k bytes in bytes -/
def numsL (zs : List Int) (k N : Nat) : List Int := (List.range N).map (numAt zs k)
theorem numsL_length (zs : List Int) (k N : Nat) : (numsL zs k N).length = N := by simp [numsL]

set_option maxRecDepth 100000 in
theorem collect_any (gf : Nat) (lb : Array Value) (f : Nat → Int) (A : Nat → Prop) (N : Nat) (w : World) (eg : ∀ args w, (callFunc gf args).run Tryz.prog w = .ok (.enter gf args) w)
    (hseq : SeqN [103, 23, 3] 7 Tryz.prog gf lb (fun j => #[.int .u32 (f j)]) A N w) (hA : ∀ x, A x → x < w.heap.size) (hN : N ≤ 35184372088831) :
    Calls Tryz.prog 49 #[.func (.func gf) #[] lb] w fun e W' => ∃ v, e = .returned v ∧ W'.ownsRow w.heap.size 56 1 v N ((List.range N).map fun j => .int .u32 (f j)) ∧ Below w.heap.size w W' := by
  have h := callsIn_wide.1 (appendSeq_in 8 gf lb f A N w eg hseq hA hN)
  have HC := Lib.hid h
  clear h eg hseq hA
  go_enter Tryz.func49, Tryz.ntmps49
  go_wp2_with (go_at_call 70; refine HC.out.mono ?_; rintro e w' ⟨v, rfl, hr, hb⟩; obtain ⟨a, c, rfl⟩ : ∃ a c, v = .slice a N c := (Sl.own hr).imp fun a h => h.imp fun c h => h.1)
  go_ret
  exact ⟨_, rfl, hr, hb⟩

/-- the numbers of k bytes in bytes; none where they have not the right number -/
def numsZ (k : Int) (zs : List Int) : List Int := if rightB k = true ∧ zs.length % k.toNat = 0 then numsL zs k.toNat (zs.length / k.toNat) else []

set_option maxRecDepth 100000 in
set_option maxHeartbeats 1000000 in
theorem numbers_any (k : Int) (a : Option Addr) (len cap : Nat) (zs : List Int) (w : World) (hx : Ints .u8 w a len cap zs) (hB : Byt zs) (hl40 : len ≤ 1099511627776) :
    Calls Tryz.prog 34 #[.int .i64 k, .slice a len cap] w fun e W' => ∃ a' c', e = .returned (.slice a' (numsZ k zs).length c') ∧ Ints .u32 W' a' (numsZ k zs).length c' (numsZ k zs) ∧ Below w.heap.size w W' := by
  have hl := hx.len
  have hcc := hx.cap
  cases hk : rightB k with
  | false =>
    have hz : numsZ k zs = [] := by unfold numsZ; rw [if_neg (by simp [hk])]
    rw [hz]
    clear hx hl hz
    go_enter Tryz.func34, Tryz.ntmps34
    go_wp2_with (go_at_call 47; refine (right_any _ _).mono ?_; rintro e w' ⟨rfl, rfl⟩)
    all_goals go_ret
    exact ⟨_, _, rfl, Ints.nil _ _, Below.refl _ _⟩
  | true =>
    have hk3 := right_cases hk
    obtain ⟨m, rfl⟩ : ∃ m : Nat, k = m := ⟨k.toNat, by omega⟩
    have hm : 1 ≤ m ∧ m ≤ 4 := by omega
    by_cases h0 : len % m = 0
    · have hz : numsZ m zs = (List.range (len / m)).map (numAt zs m) := by unfold numsZ numsL; rw [if_pos ⟨hk, by rw [hl]; exact h0⟩, hl]; rfl
      have hzl : (numsZ m zs).length = len / m := by rw [hz]; simp
      have d0 : ((len : Int) % (m : Int) != 0) = false := by
        have : ((len : Int) % (m : Int)) = ((len % m : Nat) : Int) := by simp
        rw [this, h0]; rfl
      have hw2 : Below w.heap.size w ((w.alloc (.cells #[.int .i64 m] 3)).alloc (.cells #[.slice a len cap] 23)) := ((Below.refl _ _).alloc (Nat.le_refl _) _).alloc (by simp) _
      have b1 := Boxed.new w 3 (.int .i64 m)
      have b2 := Boxed.new (w.alloc (.cells #[.int .i64 m] 3)) 23 (.slice a len cap)
      rw [World.size_alloc] at b2
      obtain ⟨b, off, ha, hbw, hcs⟩ : ∃ b off, (a = some ⟨b, off, none⟩ ∨ len ≤ 0) ∧ b < ((w.alloc (.cells #[.int .i64 m] 3)).alloc (.cells #[.slice a len cap] 23)).heap.size ∧
          ∀ j, j < len → b < ((w.alloc (.cells #[.int .i64 m] 3)).alloc (.cells #[.slice a len cap] 23)).heap.size ∧ ((w.alloc (.cells #[.int .i64 m] 3)).alloc (.cells #[.slice a len cap] 23)).cell? ⟨b, off + j, none⟩ = some (.int .u8 (nth zs j)) := by
        rcases (hx.below hw2).cells with ⟨h1, h2⟩ | ⟨b, off, h1, h2, h3, h4⟩
        · exact ⟨w.heap.size, 0, .inr (by omega), by simp; omega, fun j hj => by omega⟩
        · exact ⟨b, off, .inl h1, h2, fun j hj => ⟨h2, h4 j hj⟩⟩
      have hseq := numbers_seq 7 (by omega) (w.heap.size + 1) w.heap.size a len cap m zs hm.1 hm.2 b off ha _ (hx.below hw2) hB hbw hl40 hcs b2.cell (b1.alloc _).cell
      have hcol := collect_any 71 _ (numAt zs m) _ (len / m) _ (enters_of Tryz.func71 (by kernel_rfl) rfl) hseq (by rintro x (rfl | rfl | rfl) <;> first | exact hbw | (simp; done) | (simp; omega)) (by have := Nat.div_le_self len m; omega)
      have HC := Lib.hid hcol
      have HW := Lib.hid hw2
      have HZ := Lib.hid hz
      have HZL := Lib.hid hzl
      have HM := Lib.hid hm
      clear hseq hcol hw2 hz hzl b1 b2 ha hbw hcs hx hl hk3
      go_enter Tryz.func34, Tryz.ntmps34
      go_wp2_with (first | (go_at_call 47; refine (right_any _ _).mono ?_; rintro e w' ⟨rfl, rfl⟩) | (go_at_call 50; refine (callsIn_wide.1 (numbers_in 0 _ _ _ _ _)).mono ?_; rintro e w' ⟨rfl, rfl⟩) | (go_at_call 49; refine HC.out.mono ?_; rintro e w' ⟨v, rfl, hr, hb⟩; obtain ⟨a', c', rfl, hi⟩ := Ints.own (zs := (List.range (len / m)).map (numAt zs m)) (by rw [List.map_map]; exact hr)))
      go_ret
      rw [HZL.out, HZ.out]
      exact ⟨_, _, rfl, hi, HW.out.trans (hb.mono (by simp; omega))⟩
    · have hz : numsZ m zs = [] := by unfold numsZ; rw [if_neg (by rw [hl]; intro h; exact h0 h.2)]
      rw [hz]
      clear hx hl hz hk3
      go_enter Tryz.func34, Tryz.ntmps34
      go_wp2_with (go_at_call 47; refine (right_any _ _).mono ?_; rintro e w' ⟨rfl, rfl⟩)
      all_goals go_ret
      exact ⟨_, _, rfl, Ints.nil _ _, Below.refl _ _⟩

end Go.Proofs.YtmncmbbgdkkgaaaGreatDoor

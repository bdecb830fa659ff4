/- tlv.Size, given, back, Few, Same of frames. -/
import Derived.Test.YtpccbnlbonjklaaDoorTlv1
namespace Go.Proofs.YtpccbnlbonjklaaDoor
set_option maxRecDepth 100000
open Go.RowKit

theorem Frs.loc {w : World} {a : Option Addr} {n c : Nat} {fs : List Fr} (h : Frs w a n c fs) :
    ∃ b off, (a = some ⟨b, off, none⟩ ∨ n ≤ 0) ∧ ∀ j, j < n → b < w.heap.size ∧ w.cell? ⟨b, off + j * 2, none⟩ = some (.int .u16 (fr fs j).t) ∧ w.cell? ⟨b, off + j * 2 + 1, none⟩ = some (.slice (fr fs j).p.a (fr fs j).p.n (fr fs j).p.c) := h.2.2.2.1
theorem Frs.len {w : World} {a : Option Addr} {n c : Nat} {fs : List Fr} (h : Frs w a n c fs) : fs.length = n := h.1
theorem Frs.cap {w : World} {a : Option Addr} {n c : Nat} {fs : List Fr} (h : Frs w a n c fs) : n ≤ c ∧ c ≤ 9223372036854775807 := ⟨h.2.1, h.2.2.1⟩

/-! ref.Few -/
def sumF (fs : List Fr) : Nat := (fs.map fun f => f.p.n).sum
theorem sumF_take {fs : List Fr} {k : Nat} (h : k < fs.length) : sumF (fs.take (k + 1)) = sumF (fs.take k) + (fr fs k).p.n := by rw [take_succ_fr h]; simp [sumF]
theorem sumF_le (fs : List Fr) (k : Nat) : sumF (fs.take k) ≤ sumF fs := by
  have : sumF fs = sumF (fs.take k) + sumF (fs.drop k) := by
    unfold sumF; rw [← List.sum_append, ← List.map_append, List.take_append_drop]
  omega
def fewF (fs : List Fr) : Bool := decide (fs.length ≤ 50) && decide (sumF fs ≤ 140000)
theorem sumF_small {fs : List Fr} (h : ∀ f ∈ fs, f.p.n ≤ 140737488351232) (hn : fs.length ≤ 50) : sumF fs ≤ 7036874417561600 := by
  have : ∀ l : List Fr, (∀ f ∈ l, f.p.n ≤ 140737488351232) → sumF l ≤ l.length * 140737488351232 := fun l => by
    induction l with
    | nil => intro _; simp [sumF]
    | cons f l ih =>
      intro h
      have h1 := h f (by simp)
      have h2 := ih (fun g hg => h g (by simp [hg]))
      simp only [sumF, List.map_cons, List.sum_cons, List.length_cons] at *
      omega
  have := this fs h
  omega
set_option maxHeartbeats 4000000 in
/-- ref.Few: where there are more than fifty frames the sum may run over: the answer is no all the same -/
theorem few_any (a : Option Addr) (n c : Nat) (fs : List Fr) (w : World) (hx : Frs w a n c fs) (hs : ∀ f ∈ fs, f.p.n ≤ 140737488351232) :
    Calls Tryd.prog 14 #[.slice a n c] w fun e w' => e = .returned (.bool (fewF fs)) ∧ w = w' := by
  obtain ⟨b, off, ha, hc⟩ := hx.loc
  have HC := Lib.hid hc
  have HL := Lib.hid hx.len
  have HS := Lib.hid hs
  have hcc := hx.cap
  obtain ⟨R, hR⟩ : ∃ R, R = fewF fs := ⟨_, rfl⟩
  rw [← hR]
  have HR := Lib.hid hR
  clear hc hs hx hR
  go_enter Tryd.func14, Tryd.ntmps14
  go_wp2
  go_loopw [3, 4] (fun s i wr => ∃ (k : Nat) (z : Int), k ≤ n ∧ i = .int .i64 k ∧ s = .int .i64 z ∧ Hid (n ≤ 50 → z = (sumF (fs.take k) : Nat)) ∧ wr = w) (fun _ i _ => n - (intOf i).toNat)
  case atStart => exact ⟨0, 0, Nat.zero_le _, rfl, rfl, Lib.hid (fun _ => by simp [sumF]), rfl⟩
  case round =>
    obtain ⟨k, z, hk, rfl, rfl, HZ, rfl⟩ := hrel
    rcases ha with rfl | hn0
    all_goals by_cases hlt : k < n
    · have h1 := (HC.out k hlt).2.2
      have HW : Hid (n ≤ 50 → wrap64 (z + ((fr fs k).p.n : Int)) = (sumF (fs.take (k + 1)) : Nat)) := fun hn => by
        have hl := HL.out
        have h2 : sumF (fs.take (k + 1)) = sumF (fs.take k) + (fr fs k).p.n := sumF_take (by omega)
        have h3 := sumF_le fs (k + 1)
        have h4 := sumF_small HS.out (by omega)
        rw [HZ.out hn, h2, wrap64]
        omega
      go_wp2
      go_roundw
      case rel => exact ⟨k + 1, _, by omega, by go_num, rfl, HW, trivial⟩
      case measure => simp [intOf]; omega
    · have hkn : k = n := by omega
      have HK := Lib.hid hkn
      have d0 : decide ((k : Int) < n) = false := by simp; omega
      by_cases h50 : n ≤ 50
      · have d1 : decide ((n : Int) ≤ 50) = true := by simp; omega
        have hz := HZ.out h50
        have HZ2 := Lib.hid hz
        clear hkn h50 hz
        go_wp2
        go_ret
        refine ⟨?_, rfl⟩
        show Ending.returned (.bool (decide (z ≤ 140000))) = _
        rw [HR.out, HZ2.out, HK.out, fewF, HL.out, ← HL.out, List.take_length]
        refine ret_bool ?_
        have : decide (fs.length ≤ 50) = true := by have h := HL.out; have h2 : (n : Int) ≤ 50 := of_decide_eq_true d1; exact decide_eq_true (by omega)
        rw [this, Bool.true_and]
        exact decide_eq_decide.2 (by omega)
      · have d1 : decide ((n : Int) ≤ 50) = false := by simp; omega
        have H50 := Lib.hid h50
        clear hkn h50
        go_wp2
        go_ret
        refine ⟨?_, rfl⟩
        show Ending.returned (.bool false) = _
        rw [HR.out, fewF, HL.out]
        have := H50.out
        simp [this]
    · exact absurd hlt (by omega)
    · have hkn : k = n := by omega
      have HK := Lib.hid hkn
      have d0 : decide ((k : Int) < n) = false := by simp; omega
      by_cases h50 : n ≤ 50
      · have d1 : decide ((n : Int) ≤ 50) = true := by simp; omega
        have hz := HZ.out h50
        have HZ2 := Lib.hid hz
        clear hkn h50 hz
        go_wp2
        go_ret
        refine ⟨?_, rfl⟩
        show Ending.returned (.bool (decide (z ≤ 140000))) = _
        rw [HR.out, HZ2.out, HK.out, fewF, HL.out, ← HL.out, List.take_length]
        refine ret_bool ?_
        have : decide (fs.length ≤ 50) = true := by have h := HL.out; have h2 : (n : Int) ≤ 50 := of_decide_eq_true d1; exact decide_eq_true (by omega)
        rw [this, Bool.true_and]
        exact decide_eq_decide.2 (by omega)
      · have d1 : decide ((n : Int) ≤ 50) = false := by simp; omega
        have H50 := Lib.hid h50
        clear hkn h50
        go_wp2
        go_ret
        refine ⟨?_, rfl⟩
        show Ending.returned (.bool false) = _
        rw [HR.out, fewF, HL.out]
        have := H50.out
        simp [this]

/-! append of a frame -/
theorem infoT : (Tryd.prog.info? 48).map (fun i => (i.zero, i.size, i.bytes)) = some (some (.agg #[.int .u16 0, .slice none 0 0]), 2, 32) := by kernel_rfl
theorem infoR : (Tryd.prog.info? 51).map (fun i => (i.zero, i.size, i.bytes)) = some (some (.agg #[.int .u16 0, .slice none 0 0]), 2, 32) := by kernel_rfl
theorem info_int : (Tryd.prog.info? 3).map (fun i => (i.zero, i.size, i.bytes)) = some (some (.int .i64 0), 1, 8) := by kernel_rfl
theorem append_fr {P : Program} (w : World) {ops : Array Oper} {rest : List Oper} {o : Oper} {a : Act} {Q : Exit → Act → World → Prop} (hgd : Region.wanted o (yielded ops a.tmps) = true) (s x : Operand) (t : TypeId)
    (ho : o.op = .call { callee := .builtin .append, args := #[s, x], argTypes := #[t, t] })
    (base : Nat) (e : TypeId) (i : TypeInfo) (ht : P.underlying t = some (.slice e)) (hi : P.info? e = some i) (hz : i.zero = some (.agg #[.int .u16 0, .slice none 0 0])) (hsize : i.size = 2) (hby : i.bytes = 32)
    (v : Value) (n : Nat) (fs : List Fr) (hs : a.eval s = v) (hown : w.ownsRow base e 2 v n (cellsF fs))
    (b c : Nat) (f : Fr) (hx : a.eval x = .slice (some ⟨b, 0, none⟩) 1 c) (h0 : w.cell? ⟨b, 0, none⟩ = some (.int .u16 f.t)) (h1 : w.cell? ⟨b, 1, none⟩ = some (.slice f.p.a f.p.n f.p.c))
    (hn : n ≤ 1099511627776) (hbase : base ≤ w.heap.size)
    (h : ∀ v' w', Hid (w'.ownsRow base e 2 v' (n + 1) (cellsF (fs ++ [f]))) → Hid (w.grownBy w' v.ownBlock) → wpList P ops Q rest (a.put o.dst v') w') : wpList P ops Q (o :: rest) a w := by
  refine wpList_step fun K hK => ?_
  rw [if_pos hgd]
  refine wp_append_own w s x t ho base e i _ 2 32 ht hi hz hsize hby rfl (by decide) v n (cellsF fs) hs hown ⟨b, 0, none⟩ 1 c f.cs hx rfl (fun j u hu => ?_) ?_ (by unfold maxLen; omega) (by omega) hbase (fun v' w' h2 h3 _ => hK _ _ (h v' w' (Lib.hid ?_) (Lib.hid h3)))
  · rw [Addr.add_lit, Nat.zero_add]
    match j, hu with
    | 0, hu => cases hu; exact h0
    | 1, hu => cases hu; exact h1
  · intro u hu
    simp only [Fr.cs, List.mem_cons, List.not_mem_nil, or_false] at hu
    rcases hu with rfl | rfl <;> rfl
  · rw [cellsF_append]; simpa [cellsF] using h2

set_option maxHeartbeats 4000000 in
theorem back_any (a : Option Addr) (n c : Nat) (fs : List Fr) (w : World) (hx : Frs w a n c fs) (hn : n ≤ 1099511627776) :
    Calls Tryd.prog 12 #[.slice a n c] w fun e w' => ∃ a' c', e = .returned (.slice a' n c') ∧ Frs w' a' n c' fs ∧ Below w.heap.size w w' := by
  obtain ⟨i0, hi, hz0, hz1, hz2⟩ := info_parts infoR
  obtain ⟨b, off, ha, hc⟩ := hx.loc
  have HC := Lib.hid hc
  have HX := Lib.hid hx
  have hcc := hx.cap
  clear hc hx
  go_enter Tryd.func12, Tryd.ntmps12
  go_wp2
  go_loopw [3, 4] (fun v i wr => ∃ k : Nat, k ≤ n ∧ i = .int .i64 k ∧ wr.ownsRow w.heap.size 51 2 v k (cellsF (fs.take k)) ∧ Below w.heap.size w wr) (fun _ i _ => n - (intOf i).toNat)
  case atStart => exact ⟨0, Nat.zero_le _, rfl, World.ownsRow_nil _ _ _ _, Below.refl _ _⟩
  case round =>
    obtain ⟨k, hk, rfl, hown, hbw⟩ := hrel
    have HO := Lib.hid hown
    have HW := Lib.hid hbw
    have hsw : w.heap.size ≤ wr.heap.size := hbw.size
    clear hown hbw
    rcases ha with rfl | hn0
    all_goals by_cases hlt : k < n
    · have h1 := (HW.out.cell (p := ⟨b, off + k * 2, none⟩) (HC.out k hlt).1).trans (HC.out k hlt).2.1
      have h2 := (HW.out.cell (p := ⟨b, off + k * 2 + 1, none⟩) (HC.out k hlt).1).trans (HC.out k hlt).2.2
      have hst : fs.take k ++ [fr fs k] = fs.take (k + 1) := (take_succ_fr (by rw [HX.out.len]; exact hlt)).symm
      have HST := Lib.hid hst
      clear hst
      go_wp2_with (at_builtin; refine append_fr _ rfl _ _ 29 rfl w.heap.size 51 i0 Tryd.underlying29 hi hz0 hz1 hz2 _ _ (fs.take k) rfl (HO.out.alloc _) wr.heap.size 1 (fr fs k) rfl (by simp) (by simp) (by omega) (by simp; omega) ?_; intro v' w2 HO2 hgrow)
      have HO3 := HO2.out
      rw [HST.out] at HO3
      have HO4 := Lib.hid HO3
      have HW2 := Lib.hid ((HW.out.alloc hsw _).grown hgrow.out (by simp; omega) (fun k' hk' => (HO.out.lt k' hk').1))
      clear HO2 HO3 hgrow HO HW h1 h2
      go_wp2
      go_roundw
      case rel => exact ⟨k + 1, by omega, by go_num, HO4.out, HW2.out⟩
      case measure => simp [intOf]; omega
    · have hkn : k = n := by omega
      subst hkn
      have HO2 := HO.out
      rw [← HX.out.len, List.take_length, HX.out.len] at HO2
      obtain ⟨a', c', rfl, hfr⟩ := Frs.own HO2 (fun f hf => (HX.out.2.2.2.2 f hf).below HW.out)
      have HF := Lib.hid hfr
      clear hfr HO2 HO
      go_wp2
      go_ret
      exact ⟨_, _, rfl, HF.out, HW.out⟩
    · exact absurd hlt (by omega)
    · have hkn : k = n := by omega
      subst hkn
      have HO2 := HO.out
      rw [← HX.out.len, List.take_length, HX.out.len] at HO2
      obtain ⟨a', c', rfl, hfr⟩ := Frs.own HO2 (fun f hf => (HX.out.2.2.2.2 f hf).below HW.out)
      have HF := Lib.hid hfr
      clear hfr HO2 HO
      go_wp2
      go_ret
      exact ⟨_, _, rfl, HF.out, HW.out⟩
end Go.Proofs.YtpccbnlbonjklaaDoor

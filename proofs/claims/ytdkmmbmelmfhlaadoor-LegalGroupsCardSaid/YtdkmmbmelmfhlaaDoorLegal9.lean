/- The walk of the law LegalBegins. -/
import Derived.Test.YtdkmmbmelmfhlaaDoorLegal8
import Derived.ArgAppend
namespace Go.Proofs.YtdkmmbmelmfhlaaDoor
open Go.RowKit

theorem take_ok {zs : List Int} (k : Nat) (hk : k ≤ zs.length) {j : Nat} (hj : j < k) : okAt (zs.take k) j = okAt zs j := by
  have h1 : nth (zs.take k) j = nth zs j := by
    rw [nth_lt (by simp; omega), nth_lt (by omega)]; simp
  have h2 : (zs.take k).take j = zs.take j := by rw [List.take_take]; congr 1; omega
  unfold okAt; rw [h1, h2]
theorem legal_all {zs : List Int} (h0 : 0 < zs.length) (h : ∀ j, j < zs.length → okAt zs j = true) : legalB zs = true := by
  rw [legal_pos h0, first_none h]; rfl
theorem first_all {zs : List Int} (h : firstI zs < 0) : ∀ j, j < zs.length → okAt zs j = true := by
  rcases first_cases zs with ⟨_, h1⟩ | ⟨k, _, h1, _⟩
  · exact h1
  · omega
theorem legal_take {zs : List Int} (h : ∀ j, j < zs.length → okAt zs j = true) {k : Nat} (h0 : 0 < k) (hk : k ≤ zs.length) : legalB (zs.take k) = true :=
  legal_all (by simp; omega) fun j hj => by
    have hj2 : j < k := by simp at hj; omega
    rw [take_ok k hk hj2]; exact h j (by omega)
theorem snoc_ok {zs : List Int} (t : Int) {j : Nat} (hj : j < zs.length) : okAt (zs ++ [t]) j = okAt zs j := by
  unfold okAt
  rw [nth_append_left hj, List.take_append_of_le_length (by omega)]
theorem snoc_last {zs : List Int} (t : Int) : okAt (zs ++ [t]) zs.length = mayB t zs := by
  unfold okAt
  rw [nth_append_right (Nat.le_refl _), Nat.sub_self, List.take_append_of_le_length (Nat.le_refl _), List.take_length]
  rfl
theorem legal_snoc {zs : List Int} (h : ∀ j, j < zs.length → okAt zs j = true) (t : Int) : legalB (zs ++ [t]) = mayB t zs := by
  rw [legal_pos (by simp)]
  cases hm : mayB t zs with
  | true =>
    rw [first_none fun j hj => by
      by_cases e : j = zs.length
      · subst e; rw [snoc_last]; exact hm
      · have hj2 : j < zs.length := by simp at hj; omega
        rw [snoc_ok t hj2]; exact h j hj2]
    rfl
  | false =>
    rw [first_some (k := zs.length) (by simp) (by rw [snoc_last]; exact hm) fun j hj => by rw [snoc_ok t hj]; exact h j hj]
    simp

theorem info5 : (Tryd.prog.info? 5).map (fun i => (i.zero, i.size, i.bytes)) = some (some (.int .u8 0), 1, 1) := by kernel_rfl

/-- 'append(x[:n:n], y)': a new row -/
theorem append_full {w : World} {ty : TypeId} {b off n : Nat} {zs : List Int} {pb : Nat} {t : Int} (hn : n ≤ 1000) (hx : zs.length = n) (hc : ∀ j, j < n → w.cell? ⟨b, off + j, none⟩ = some (.int .u8 (nth zs j)))
    (hp : w.cell? ⟨pb, 0, none⟩ = some (.int .u8 t)) : ∃ v' w', (Builtin.append_ #[22, 22] ty #[.slice (some ⟨b, off, none⟩) n n, .slice (some ⟨pb, 0, none⟩) 1 1]).run Tryd.prog w = .ok v' w' ∧ w'.ownsRow w.heap.size 5 1 v' (n + 1) ((zs ++ [t]).map (Value.int .u8)) ∧ w.grownBy w' none := by
  obtain ⟨i0, hi, hz0, hz1, hz2⟩ := info_parts info5
  have := run_append_arg_grows (P := Tryd.prog) (w := w) 22 ty 5 i0 (.int .u8 0) 1 1 Tryd.underlying22 hi hz0 hz1 hz2 rfl (by decide) ⟨b, off, none⟩ n n (zs.map (Value.int .u8)) (by simpa using hx) (fun j u hu => by
    rw [List.getElem?_map] at hu
    obtain ⟨z, hz, rfl⟩ := Option.map_eq_some_iff.1 hu
    have hj := (List.getElem?_eq_some_iff.1 hz).1
    rw [Addr.add_lit, hc j (by omega), nth_lt hj]
    rw [List.getElem?_eq_getElem hj] at hz
    rw [Option.some.inj hz]) ⟨pb, 0, none⟩ 1 1 [.int .u8 t] rfl (fun j u hu => by
    have hj : j = 0 := by
      have := (List.getElem?_eq_some_iff.1 hu).1
      simp at this; omega
    subst hj
    simp at hu
    subst hu
    rw [Addr.add_lit]; exact hp) (by omega) (by unfold maxLen; omega) (by omega)
  rw [List.map_append]
  exact this

/-- 'append', by what it answers; a guard that is met is let by -/
theorem append_run_any {P : Program} (w : World) {ops : Array Oper} {rest : List Oper} {o : Oper} {a : Act} {Q : Exit → Act → World → Prop} (hgd : Region.wanted o (yielded ops a.tmps) = true) (s x : Operand) (t : TypeId)
    (ho : o.op = .call { callee := .builtin .append, args := #[s, x], argTypes := #[t, t] }) (v u : Value) (hs : a.eval s = v) (hx : a.eval x = u) {v' : Value} {w' : World}
    (hr : (Builtin.append_ #[t, t] o.type #[v, u]).run P w = .ok v' w') (h : wpList P ops Q rest (a.put o.dst v') w') : wpList P ops Q (o :: rest) a w := by
  refine wpList_step fun K hK => ?_
  rw [if_pos hgd]
  exact Lib.wp_append_run w s x t t ho v u hs hx v' w' hr (hK _ _ h)

set_option maxHeartbeats 4000000 in
theorem walk_LegalBegins (a : Option Addr) (n c : Nat) (zs : List Int) (t k : Int) (w : World) (hA : AloneOk w) (hx : Ints .u8 w a n c zs) (hk0 : 0 ≤ k) (hk1 : k < 256) :
    Calls Tryd.prog 4 #[.slice a n c, .int .u8 t, .int .u8 k] w fun e w' => e = .returned (.bool true) ∧ Below w.heap.size w w' := by
  have hc := hx.cap
  have hl := hx.len
  have HX := Lib.hid hx
  have HA := Lib.hid hA
  clear hx hA
  by_cases hn : 100 < n
  · clear hl
    go_enter Tryd.func4, Tryd.ntmps4
    go_wp2_with fail
    refine (awake_any _ HA.out).mono ?_
    rintro e w1 ⟨rfl, hb1⟩
    have HB1 := Lib.hid hb1
    clear hb1
    go_wp2_with fail
    refine (awake_any _ (HA.out.below HB1.out)).mono ?_
    rintro e w2 ⟨rfl, hb2⟩
    have HB2 := Lib.hid (HB1.out.trans (hb2.mono HB1.out.size))
    clear hb2
    go_wp2
    go_ret
    exact ⟨rfl, HB2.out⟩
  · by_cases h0 : n = 0
    · subst h0
      clear hl
      go_enter Tryd.func4, Tryd.ntmps4
      go_wp2_with fail
      refine (awake_any _ HA.out).mono ?_
      rintro e w1 ⟨rfl, hb1⟩
      have HB1 := Lib.hid hb1
      clear hb1
      go_wp2_with fail
      refine (awake_any _ (HA.out.below HB1.out)).mono ?_
      rintro e w2 ⟨rfl, hb2⟩
      have HB2 := Lib.hid (HB1.out.trans (hb2.mono HB1.out.size))
      clear hb2
      go_wp2
      go_ret
      exact ⟨rfl, HB2.out⟩
    · have hn0 : ¬ ((n : Int) = 0) := by omega
      have hnb : ((n : Int) == 0) = false := by simp; omega
      by_cases hf : 0 ≤ firstI zs
      · clear hl
        go_enter Tryd.func4, Tryd.ntmps4
        go_wp2_with fail
        refine (awake_any _ HA.out).mono ?_
        rintro e w1 ⟨rfl, hb1⟩
        have HB1 := Lib.hid hb1
        clear hb1
        go_wp2_with fail
        refine (reffirst_any _ _ _ zs _ (HX.out.below HB1.out)).mono ?_
        rintro e w2 ⟨rfl, hb2⟩
        have HB2 := Lib.hid (HB1.out.trans (hb2.mono HB1.out.size))
        clear hb2 HB1
        go_wp2_with fail
        refine (awake_any _ (HA.out.below HB2.out)).mono ?_
        rintro e w3 ⟨rfl, hb3⟩
        have HB3 := Lib.hid (HB2.out.trans (hb3.mono HB2.out.size))
        clear hb3
        go_wp2
        go_ret
        exact ⟨rfl, HB3.out⟩
      · have hall := first_all (zs := zs) (by omega)
        have hr0 := Int.emod_nonneg k hn0
        have hr1 := Int.emod_lt_of_pos k (show (0 : Int) < n by omega)
        obtain ⟨K, hK⟩ : ∃ K : Nat, (1 + k % (n : Int)).toNat = K := ⟨_, rfl⟩
        have hKb : 1 ≤ K ∧ K ≤ n := by omega
        have hl1 := Lib.hid (legal_take hall (k := K) (by omega) (by omega))
        have hl2 := Lib.hid (legal_snoc hall t)
        have HL := Lib.hid hl
        have HK := Lib.hid hK
        obtain ⟨b1, o1, ha, hcx⟩ := HX.out.loc
        have ha' : a = some ⟨b1, o1, none⟩ := by rcases ha with h | h; exact h; omega
        subst ha'
        have HC := Lib.hid hcx
        clear hall hl hK ha hcx
        go_enter Tryd.func4, Tryd.ntmps4
        go_wp2_with fail
        refine (awake_any _ HA.out).mono ?_
        rintro e w1 ⟨rfl, hb1⟩
        have HB1 := Lib.hid hb1
        clear hb1
        go_wp2_with fail
        refine (reffirst_any _ _ _ zs _ (HX.out.below HB1.out)).mono ?_
        rintro e w2 ⟨rfl, hb2⟩
        have HB2 := Lib.hid (HB1.out.trans (hb2.mono HB1.out.size))
        have hs2 : w.heap.size ≤ w2.heap.size := HB2.out.size
        clear hb2 HB1
        go_wp2_with fail
        rw [HK.out]
        refine (legal_any _ _ _ (zs.take K) _ (HA.out.below HB2.out) ((HX.out.pre hKb.2).below HB2.out)).mono ?_
        rintro e w3 ⟨rfl, hb3⟩
        rw [hl1.out]
        have HB3 := Lib.hid (HB2.out.trans (hb3.mono hs2))
        have hs3 : w.heap.size ≤ w3.heap.size := HB3.out.size
        clear hb3 HB2
        obtain ⟨v', w4, hr, hown, hgrow⟩ := append_full (w := w3.alloc (.cells #[.int .u8 t] 5)) (ty := 22) (b := b1) (off := o1) (n := n) (zs := zs) (pb := w3.heap.size) (t := t) (by omega) HL.out
          (fun j hj => ((HB3.out.alloc hs3 _).cell (p := ⟨b1, o1 + j, none⟩) (HC.out j hj).1).trans (HC.out j hj).2) (by rw [World.cell?_alloc_at _ _ _ _ rfl]; rfl)
        obtain ⟨a2, c2, hv2, hsl⟩ := Ints.own hown
        subst hv2
        have HS := Lib.hid hsl
        have HB4 := Lib.hid ((HB3.out.alloc hs3 (.cells #[.int .u8 t] 5)).trans ((below_grown hgrow rfl).mono (by simp; omega)))
        have hs4 : w.heap.size ≤ w4.heap.size := HB4.out.size
        have HR := Lib.hid hr
        clear hr hown hgrow hsl HB3
        go_wp2_with (at_builtin; refine append_run_any _ rfl _ _ 22 rfl _ _ rfl rfl HR.out ?_)
        refine (legal_any _ _ _ (zs ++ [t]) _ (HA.out.below HB4.out) HS.out).mono ?_
        rintro e w5 ⟨rfl, hb5⟩
        rw [hl2.out]
        have HB5 := Lib.hid (HB4.out.trans (hb5.mono hs4))
        have hs5 : w.heap.size ≤ w5.heap.size := HB5.out.size
        clear hb5 HB4 HS HR
        go_wp2_with fail
        refine (may_any _ _ _ _ zs _ (HA.out.below HB5.out) (HX.out.below HB5.out)).mono ?_
        rintro e w6 ⟨rfl, hb6⟩
        have HB6 := Lib.hid (HB5.out.trans (hb6.mono hs5))
        have hs6 : w.heap.size ≤ w6.heap.size := HB6.out.size
        clear hb6 HB5
        go_wp2_with fail
        refine (may_any _ none 0 0 [] _ (HA.out.below HB6.out) (Ints.nil _ _)).mono ?_
        rintro e w7 ⟨rfl, hb7⟩
        rw [may_nil]
        have HB7 := Lib.hid (HB6.out.trans (hb7.mono hs6))
        clear hb7 HB6
        go_wp2
        go_ret
        exact ⟨rfl, HB7.out⟩

end Go.Proofs.YtdkmmbmelmfhlaaDoor

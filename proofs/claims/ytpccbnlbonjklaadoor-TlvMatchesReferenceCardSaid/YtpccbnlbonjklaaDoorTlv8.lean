/- What Split computes; tlv.Split. -/
import Derived.Test.YtpccbnlbonjklaaDoorTlv7
namespace Go.Proofs.YtpccbnlbonjklaaDoor
set_option maxRecDepth 100000
set_option linter.unusedVariables false
open Go.RowKit

def ErrAt (zs : List Int) (p : Nat) (c a : Int) : Prop :=
  (zs.length < p + 4 ∨ lenAt zs p < 4 ∨ zs.length < p + lenAt zs p) ∧ c = 4 ∧ a = p ∨
  (p + 4 ≤ zs.length ∧ 4 ≤ lenAt zs p ∧ p + lenAt zs p < zs.length ∧ (Pd.nextB zs ((p : Int) + (lenAt zs p : Int)) = false ∨ (p : Int) + (lenAt zs p : Int) + Pd.gap ((p : Int) + (lenAt zs p : Int)) = zs.length)) ∧ c = 5 ∧ a = (p : Int) + (lenAt zs p : Int)
def OkAt (zs : List Int) (p q : Nat) : Prop :=
  p + 4 ≤ zs.length ∧ 4 ≤ lenAt zs p ∧ (p + lenAt zs p = zs.length ∧ q = zs.length ∨
    p + lenAt zs p < zs.length ∧ Pd.nextB zs ((p : Int) + (lenAt zs p : Int)) = true ∧ (q : Int) = (p : Int) + (lenAt zs p : Int) + Pd.gap ((p : Int) + (lenAt zs p : Int)) ∧ q < zs.length)
inductive Run (zs : List Int) : Nat → List (Int × List Int) → Option (Int × Int) → Prop
  | stop {p : Nat} : zs.length ≤ p → Run zs p [] none
  | err {p : Nat} {c a : Int} : p < zs.length → ErrAt zs p c a → Run zs p [] (some (c, a))
  | ok {p q : Nat} {fs : List (Int × List Int)} {r : Option (Int × Int)} : p < zs.length → OkAt zs p q → Run zs q fs r → Run zs p ((typAt zs p, valAt zs p) :: fs) r
theorem err_ok {zs : List Int} {p q : Nat} {c a : Int} (h : ErrAt zs p c a) (k : OkAt zs p q) : False := by
  obtain ⟨k1, k2, k3⟩ := k
  rcases h with ⟨h, _⟩ | ⟨⟨h1, h2, h3, h4⟩, _⟩
  · omega
  · rcases k3 with ⟨k3, _⟩ | ⟨_, k4, k5, k6⟩
    · omega
    · rcases h4 with h4 | h4
      · rw [h4] at k4; cases k4
      · omega
theorem err_err {zs : List Int} {p : Nat} {c a c' a' : Int} (h : ErrAt zs p c a) (k : ErrAt zs p c' a') : c = c' ∧ a = a' := by
  rcases h with ⟨h, rfl, rfl⟩ | ⟨h, rfl, rfl⟩ <;> rcases k with ⟨k, rfl, rfl⟩ | ⟨k, rfl, rfl⟩
  · exact ⟨rfl, rfl⟩
  · exfalso; obtain ⟨k1, k2, k3, _⟩ := k; omega
  · exfalso; obtain ⟨k1, k2, k3, _⟩ := h; omega
  · exact ⟨rfl, rfl⟩
theorem ok_ok {zs : List Int} {p q q' : Nat} (h : OkAt zs p q) (k : OkAt zs p q') : q = q' := by
  obtain ⟨_, _, h⟩ := h
  obtain ⟨_, _, k⟩ := k
  rcases h with ⟨h1, h2⟩ | ⟨h1, h2, h3, _⟩ <;> rcases k with ⟨k1, k2⟩ | ⟨k1, k2, k3, _⟩ <;> omega
theorem Run.same {zs : List Int} {p : Nat} {fs : List (Int × List Int)} {r : Option (Int × Int)} (h : Run zs p fs r) : ∀ {gs r'}, Run zs p gs r' → fs = gs ∧ r = r' := by
  induction h with
  | stop h =>
    intro gs r' k
    cases k with
    | stop => exact ⟨rfl, rfl⟩
    | err k => omega
    | ok k => omega
  | err h h2 =>
    intro gs r' k
    cases k with
    | stop k => omega
    | err k k2 => obtain ⟨rfl, rfl⟩ := err_err h2 k2; exact ⟨rfl, rfl⟩
    | ok k k2 => exact (err_ok h2 k2).elim
  | ok h h2 h3 ih =>
    intro gs r' k
    cases k with
    | stop k => omega
    | err k k2 => exact (err_ok k2 h2).elim
    | ok k k2 k3 =>
      obtain rfl := ok_ok h2 k2
      obtain ⟨rfl, rfl⟩ := ih k3
      exact ⟨rfl, rfl⟩
theorem ErrAt.ne {zs : List Int} {p : Nat} {c a : Int} (h : ErrAt zs p c a) : c ≠ 0 := by rcases h with ⟨_, rfl, _⟩ | ⟨_, rfl, _⟩ <;> decide
theorem Run.ne {zs : List Int} {p : Nat} {fs : List (Int × List Int)} {c a : Int} (h : Run zs p fs (some (c, a))) : c ≠ 0 := by
  generalize hr : some (c, a) = r at h
  induction h with
  | stop => cases hr
  | err _ h2 => cases hr; exact h2.ne
  | ok _ _ _ ih => exact ih hr
theorem OkAt.lt {zs : List Int} {p q : Nat} (h : OkAt zs p q) : p < q ∧ q ≤ zs.length := by
  obtain ⟨h1, h2, h⟩ := h
  rcases h with ⟨h3, rfl⟩ | ⟨h3, h4, h5, h6⟩
  · omega
  · have := Pd.gap_bd ((p : Int) + (lenAt zs p : Int)); omega

theorem read_any (a : Option Addr) (n c : Nat) (zs : List Int) (p : Nat) (w : World) (hx : Ints .u8 w a n c zs) (hb : Byt zs) (hp : p < n) (hn : n ≤ 1000000) :
    (∃ co at', ErrAt zs p co at' ∧ Calls Tryd.prog 22 #[.slice a n c, .int .i64 p] w fun e w' => e = .returned (.tuple #[.agg #[.int .u16 0, .slice none 0 0], .int .i64 0, .iface (Er.EV.flt co at').ty (Er.EV.flt co at').body]) ∧ Below w.heap.size w w') ∨
    ∃ q, OkAt zs p q ∧ Calls Tryd.prog 22 #[.slice a n c, .int .i64 p] w fun e w' => ∃ a' c', e = .returned (.tuple #[.agg #[.int .u16 (typAt zs p), .slice a' (lenAt zs p - 4) c'], .int .i64 (q : Nat), .nilIface]) ∧ Ints .u8 w' a' (lenAt zs p - 4) c' (valAt zs p) ∧ (∀ x, a' = some x → w.heap.size ≤ x.block ∧ x.block < w'.heap.size) ∧ Below w.heap.size w w' := by
  have hl := hx.len
  by_cases h4 : p + 4 ≤ n
  · by_cases hm : lenAt zs p < 4 ∨ n < p + lenAt zs p
    · exact .inl ⟨4, p, .inl ⟨.inr (by omega), rfl, rfl⟩, read_len2 a n c zs p w hx hb hp hn h4 hm⟩
    · by_cases he : p + lenAt zs p = n
      · exact .inr ⟨n, ⟨by omega, by omega, .inl ⟨by omega, by omega⟩⟩, read_ok1 a n c zs p w hx hb hp hn h4 (by omega) he⟩
      · cases hnb : Pd.nextB zs ((p : Int) + (lenAt zs p : Int)) with
        | false => exact .inl ⟨5, _, .inr ⟨⟨by omega, by omega, by omega, .inl hnb⟩, rfl, rfl⟩, read_pad1 a n c zs p w hx hb hp hn h4 (by omega) (by omega) hnb⟩
        | true =>
          by_cases hne : (p : Int) + (lenAt zs p : Int) + Pd.gap ((p : Int) + (lenAt zs p : Int)) = n
          · exact .inl ⟨5, _, .inr ⟨⟨by omega, by omega, by omega, .inr (by omega)⟩, rfl, rfl⟩, read_pad2 a n c zs p w hx hb hp hn h4 (by omega) (by omega) hnb hne⟩
          · have hg := Pd.gap_bd ((p : Int) + (lenAt zs p : Int))
            have hle : (p : Int) + (lenAt zs p : Int) + Pd.gap ((p : Int) + (lenAt zs p : Int)) ≤ zs.length := by
              simp only [Pd.nextB, Bool.and_eq_true, decide_eq_true_eq] at hnb
              exact hnb.1.2
            have hq : (((p : Int) + (lenAt zs p : Int) + Pd.gap ((p : Int) + (lenAt zs p : Int))).toNat : Int) = (p : Int) + (lenAt zs p : Int) + Pd.gap ((p : Int) + (lenAt zs p : Int)) := Int.toNat_of_nonneg (by omega)
            refine .inr ⟨((p : Int) + (lenAt zs p : Int) + Pd.gap ((p : Int) + (lenAt zs p : Int))).toNat, ⟨by omega, by omega, .inr ⟨by omega, hnb, hq, by omega⟩⟩, ?_⟩
            rw [hq]
            exact read_ok2 a n c zs p w hx hb hp hn h4 (by omega) (by omega) hnb hne
  · exact .inl ⟨4, p, .inl ⟨.inl (by omega), rfl, rfl⟩, read_len1 a n c zs p w hx hb hp hn (by omega)⟩

/-! a slice whose block is not the row that an append may write to -/
theorem Ints.grown {k : IntKind} {w w' : World} {row : Option Nat} {a : Option Addr} {n c : Nat} {zs : List Int} (h : Ints k w a n c zs) (hg : w.grownBy w' row) (ha : ∀ x, a = some x → row ≠ some x.block) : Ints k w' a n c zs := by
  obtain ⟨h1, h2, h3, h4, h5⟩ := h
  refine ⟨h1, h2, h3, h4, fun hn => ?_⟩
  obtain ⟨b, off, rfl, hlt, hc⟩ := h5 hn
  exact ⟨b, off, rfl, Nat.lt_of_lt_of_le hlt hg.size, fun j v hv => (hg.cell_far ⟨b, off + j, none⟩ hlt (fun e => ha _ rfl e.symm)).trans (hc j v hv)⟩
theorem Fr.ok.grown {w w' : World} {row : Option Nat} {f : Fr} (h : f.ok w) (hg : w.grownBy w' row) (ha : ∀ x, f.p.a = some x → row ≠ some x.block) : f.ok w' := ⟨Ints.grown h.1 hg ha, h.2⟩
/-- no frame's bytes lie in the row that holds the frames -/
def Apart (w : World) (v : Value) (fs : List Fr) : Prop := ∀ f ∈ fs, ∀ x, f.p.a = some x → v.ownBlock ≠ some x.block ∧ x.block < w.heap.size
theorem append_fr2 {P : Program} (w : World) {ops : Array Oper} {rest : List Oper} {o : Oper} {a : Act} {Q : Exit → Act → World → Prop} (hgd : Region.wanted o (yielded ops a.tmps) = true) (s x : Operand) (t : TypeId)
    (ho : o.op = .call { callee := .builtin .append, args := #[s, x], argTypes := #[t, t] })
    (base : Nat) (e : TypeId) (i : TypeInfo) (ht : P.underlying t = some (.slice e)) (hi : P.info? e = some i) (hz : i.zero = some (.agg #[.int .u16 0, .slice none 0 0])) (hsize : i.size = 2) (hby : i.bytes = 32)
    (v : Value) (n : Nat) (fs : List Fr) (hs : a.eval s = v) (hown : w.ownsRow base e 2 v n (cellsF fs))
    (b c : Nat) (f : Fr) (hx : a.eval x = .slice (some ⟨b, 0, none⟩) 1 c) (h0 : w.cell? ⟨b, 0, none⟩ = some (.int .u16 f.t)) (h1 : w.cell? ⟨b, 1, none⟩ = some (.slice f.p.a f.p.n f.p.c))
    (hn : n ≤ 1099511627776) (hbase : base ≤ w.heap.size)
    (h : ∀ g cap w', Hid (w'.ownsRow base e 2 (.slice (some ⟨g, 0, none⟩) (n + 1) cap) (n + 1) (cellsF (fs ++ [f]))) → Hid (w.grownBy w' v.ownBlock) → Hid (v.ownBlock = some g ∨ g = w.heap.size) → wpList P ops Q rest (a.put o.dst (.slice (some ⟨g, 0, none⟩) (n + 1) cap)) w') : wpList P ops Q (o :: rest) a w := by
  refine wpList_step fun K hK => ?_
  rw [if_pos hgd]
  refine wp_append_lies w s x t ho base e i _ 2 32 ht hi hz hsize hby rfl (by decide) v n (cellsF fs) hs hown ⟨b, 0, none⟩ 1 c f.cs hx rfl (fun j u hu => ?_) ?_ (by decide) (by unfold maxLen; omega) (by omega) hbase _ rfl (fun g cap w' h2 h3 h4 _ => hK _ _ (h g cap w' (Lib.hid ?_) (Lib.hid h3) (Lib.hid h4)))
  · rw [Addr.add_lit, Nat.zero_add]
    match j, hu with
    | 0, hu => cases hu; exact h0
    | 1, hu => cases hu; exact h1
  · intro u hu
    simp only [Fr.cs, List.mem_cons, List.not_mem_nil, or_false] at hu
    rcases hu with rfl | rfl <;> rfl
  · rw [cellsF_append]; simpa [cellsF] using h2

/-- one more frame behind the others -/
theorem split_step {w wr w1 W w2 : World} {g N : Nat} {v : Value} {fs : List Fr} {F : Fr} {xs : List Value} {e : TypeId} {k : Nat} {a1 : Option Addr} {cap : Nat}
    (hown : wr.ownsRow w.heap.size e 2 v k xs) (hok : ∀ f ∈ fs, f.ok wr) (hap : Apart wr v fs) (h1 : Below wr.heap.size wr w1) (hF : F.ok w1) (hfa : F.p.a = a1) (hfr : ∀ x, a1 = some x → wr.heap.size ≤ x.block ∧ x.block < w1.heap.size)
    (hW : Below w1.heap.size w1 W) (hg : W.grownBy w2 v.ownBlock) (hb : v.ownBlock = some g ∨ g = W.heap.size) (hlt : g < w2.heap.size) :
    (∀ f ∈ fs ++ [F], f.ok w2) ∧ Apart w2 (.slice (some ⟨g, 0, none⟩) N cap) (fs ++ [F]) := by
  subst hfa
  have hs1 := h1.size
  have hs2 := hW.size
  have hs3 := hg.size
  have hv : ∀ x : Addr, F.p.a = some x → v.ownBlock ≠ some x.block := fun x hx e => by
    have := (hown.lt x.block e).2
    have := (hfr x hx).1
    omega
  refine ⟨fun f hf => ?_, fun f hf x hx => ?_⟩
  · rcases List.mem_append.1 hf with hf | hf
    · exact (((hok f hf).below h1).below hW).grown hg (fun x hx => (hap f hf x hx).1)
    · obtain rfl := List.mem_singleton.1 hf
      exact (hF.below hW).grown hg hv
  · have hx2 : x.block < w1.heap.size ∧ v.ownBlock ≠ some x.block := by
      rcases List.mem_append.1 hf with hf | hf
      · have := hap f hf x hx
        exact ⟨by omega, this.1⟩
      · obtain rfl := List.mem_singleton.1 hf
        exact ⟨(hfr x hx).2, hv x hx⟩
    refine ⟨fun e => ?_, by omega⟩
    have e' : g = x.block := by simpa [Value.ownBlock] using e
    rcases hb with hb | hb
    · exact hx2.2 (by rw [hb, e'])
    · omega

set_option maxHeartbeats 8000000 in
theorem tSplit_any (a : Option Addr) (n c : Nat) (zs : List Int) (w : World) (hx : Ints .u8 w a n c zs) (hb : Byt zs) (hn : n ≤ 1000000) :
    Calls Tryd.prog 7 #[.slice a n c] w fun e w' => ∃ fs r, Run zs 0 (msF fs) r ∧ fs.length ≤ n ∧ Below w.heap.size w w' ∧
      (r = none ∧ (∃ a' c', e = .returned (.tuple #[.slice a' fs.length c', .nilIface]) ∧ Frs w' a' fs.length c' fs) ∨ ∃ co at', r = some (co, at') ∧ e = .returned (.tuple #[.slice none 0 0, .iface (Er.EV.flt co at').ty (Er.EV.flt co at').body])) := by
  obtain ⟨i0, hi, hz0, hz1, hz2⟩ := info_parts infoT
  have hcap := hx.cap
  have HX := Lib.hid hx
  have HL := Lib.hid hx.len
  have HB := Lib.hid hb
  clear hx hb
  go_enter Tryd.func7, Tryd.ntmps7
  go_wp2
  go_loopw [4, 5] (fun v i wr => ∃ (p : Nat) (fs : List Fr), p ≤ n ∧ i = .int .i64 p ∧ fs.length ≤ p ∧ wr.ownsRow w.heap.size 48 2 v fs.length (cellsF fs) ∧ Hid (∀ f ∈ fs, f.ok wr) ∧ Hid (Apart wr v fs) ∧ Hid (∀ gs r, Run zs p gs r → Run zs 0 (msF fs ++ gs) r) ∧ Below w.heap.size w wr) (fun _ i _ => n - (intOf i).toNat)
  case atStart => exact ⟨0, [], Nat.zero_le _, rfl, Nat.zero_le _, World.ownsRow_nil _ _ _ _, Lib.hid (fun f hf => by cases hf), Lib.hid (fun f hf => by cases hf), Lib.hid (fun gs r h => h), Below.refl _ _⟩
  case round =>
    obtain ⟨p, fs, hp, rfl, hfl, hown, HOK, HAP, HRN, hbw⟩ := hrel
    have HO := Lib.hid hown
    have HW := Lib.hid hbw
    have hsw : w.heap.size ≤ wr.heap.size := hbw.size
    clear hown hbw
    by_cases hlt : p < n
    · rcases read_any a n c zs p wr (HX.out.below HW.out) HB.out hlt hn with ⟨co, at', hE, hC⟩ | ⟨q, hE, hC⟩
      · have HE := Lib.hid hE
        have HCC := Lib.hid hC
        clear hE hC
        go_wp2_with fail
        refine HCC.out.mono ?_
        rintro e w1 ⟨rfl, hb1⟩
        have HB1 := Lib.hid (HW.out.trans (hb1.mono hsw))
        have hs1 := hb1.size
        clear hb1
        go_wp2
        go_ret2
        exact ⟨fs, some (co, at'), by simpa using HRN.out [] _ (Run.err (by rw [HL.out]; exact hlt) HE.out), by omega, HB1.out.alloc (by have := HB1.out.size; omega) _, .inr ⟨co, at', rfl, rfl⟩⟩
      · have HE := Lib.hid hE
        have HCC := Lib.hid hC
        clear hE hC
        go_wp2_with fail
        refine HCC.out.mono ?_
        rintro e w1 ⟨a1, c1, rfl, hi1, hfr, hb1⟩
        have HI1 := Lib.hid hi1
        have HFR := Lib.hid hfr
        have HB0 := Lib.hid hb1
        have HB1 := Lib.hid (HW.out.trans (hb1.mono hsw))
        have hs1 := hb1.size
        have HO1 := Lib.hid (own_below HO.out hb1)
        clear hb1 hi1 hfr
        have hlen : valAt zs p = valAt zs p := rfl
        obtain ⟨F, hF⟩ : ∃ F : Fr, F = ⟨typAt zs p, ⟨a1, lenAt zs p - 4, c1, valAt zs p⟩⟩ := ⟨_, rfl⟩
        have hFok : F.ok w1 := by rw [hF]; exact ⟨HI1.out, (HB.out.drop _).take _, typAt_bd HB.out p⟩
        have hFa : F.p.a = a1 := by rw [hF]
        have hFt : F.t = typAt zs p := by rw [hF]
        have hFn : F.p.n = lenAt zs p - 4 := by rw [hF]
        have hFc : F.p.c = c1 := by rw [hF]
        have hFm : F.m = (typAt zs p, valAt zs p) := by rw [hF]; rfl
        have HFM := Lib.hid hFm
        have HFOK := Lib.hid hFok
        have HFA := Lib.hid hFa
        clear hF hFok hFm hlen
        go_wp2_with (at_builtin; refine append_fr2 _ rfl _ _ 24 rfl w.heap.size 48 i0 Tryd.underlying24 hi hz0 hz1 hz2 _ fs.length fs rfl ((HO1.out.alloc _).alloc _) (w1.heap.size + 1) 1 F rfl (by rw [hFt]; simp) (by rw [hFa, hFn, hFc]; simp) (by omega) (by have := HB1.out.size; simp; omega) ?_; intro g cap w2 HO2 HGR HGB)
        have hst := split_step (N := fs.length + 1) (cap := cap) HO.out HOK.out HAP.out HB0.out HFOK.out HFA.out HFR.out (((Below.refl _ w1).alloc (Nat.le_refl _) (.cells #[.int .u16 (typAt zs p), .slice a1 (lenAt zs p - 4) c1] 48)).alloc (by simp) (.cells #[.int .u16 (typAt zs p), .slice a1 (lenAt zs p - 4) c1] 48)) HGR.out HGB.out ((HO2.out.lt g rfl).2)
        have HST := Lib.hid hst
        have HW2 := Lib.hid (((HB1.out.alloc HB1.out.size (.cells #[.int .u16 (typAt zs p), .slice a1 (lenAt zs p - 4) c1] 48)).alloc (by have := HB1.out.size; simp; omega) (.cells #[.int .u16 (typAt zs p), .slice a1 (lenAt zs p - 4) c1] 48)).grown HGR.out (by have := HB1.out.size; simp; omega) (fun k' hk' => (HO.out.lt k' hk').1))
        have HRN2 : Hid (∀ gs r, Run zs q gs r → Run zs 0 (msF (fs ++ [F]) ++ gs) r) := fun gs r h => by
          have := HRN.out _ _ (Run.ok (by rw [HL.out]; exact hlt) HE.out h)
          simpa [msF, HFM.out] using this
        have hql := HE.out.lt
        rw [HL.out] at hql
        have HO3 : Hid (w2.ownsRow w.heap.size 48 2 (.slice (some ⟨g, 0, none⟩) (fs.length + 1) cap) (fs ++ [F]).length (cellsF (fs ++ [F]))) := by rw [List.length_append]; exact HO2.out
        clear hst
        go_wp2
        go_roundw
        case rel => exact ⟨q, fs ++ [F], hql.2, rfl, by simp; omega, HO3.out, Lib.hid HST.out.1, Lib.hid HST.out.2, HRN2, HW2.out⟩
        case measure => simp [intOf]; omega
    · have hpn : p = n := by omega
      obtain ⟨a', c', rfl, hfr⟩ := Frs.own HO.out HOK.out
      have HF := Lib.hid hfr
      have hd : decide ((p : Int) < n) = false := by simp; omega
      clear hfr
      go_wp2
      go_ret2
      exact ⟨fs, none, by simpa using HRN.out [] _ (Run.stop (by rw [HL.out]; omega)), by omega, HW.out, .inl ⟨rfl, _, _, rfl, HF.out⟩⟩
end Go.Proofs.YtpccbnlbonjklaaDoor

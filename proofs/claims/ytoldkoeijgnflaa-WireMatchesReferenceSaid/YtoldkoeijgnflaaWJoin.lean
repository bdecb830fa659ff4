/- The walk of WireJoins. -/
import Derived.Test.YtoldkoeijgnflaaScr
namespace Go.Proofs.Ytoldkoeijgnflaa
open Go.RowKit

theorem info_bytes : (Try.prog.info? 22).map (fun i => (i.zero, i.size, i.bytes)) = some (some (.slice none 0 0), 1, 24) := by kernel_rfl

/-- parts of the call's own, one for each part: rows from block B on that hold the same bytes -/
def Own (B : Nat) (w : World) (ps qs : List Part) : Prop :=
  qs.length = ps.length ∧ ∀ j, j < ps.length → (prt qs j).n = (prt ps j).n ∧ (prt qs j).zs = (prt ps j).zs ∧ w.ownsRow B 5 1 (.slice (prt qs j).a (prt qs j).n (prt qs j).c) (prt qs j).n ((prt qs j).zs.map (Value.int .u8))
theorem prt_snoc_lt {qs : List Part} {q : Part} {j : Nat} (h : j < qs.length) : prt (qs ++ [q]) j = prt qs j := by
  simp [prt, List.getElem?_append_left h]
theorem prt_snoc_eq {qs : List Part} {q : Part} : prt (qs ++ [q]) qs.length = q := by simp [prt]
theorem prt_take {ps : List Part} {k j : Nat} (h : j < k) : prt (ps.take k) j = prt ps j := by
  simp [prt, h]
theorem Own.below {B : Nat} {w w' : World} {ps qs : List Part} (h : Own B w ps qs) (hb : Below w.heap.size w w') : Own B w' ps qs :=
  ⟨h.1, fun j hj => ⟨(h.2 j hj).1, (h.2 j hj).2.1, own_below (h.2 j hj).2.2 hb⟩⟩
theorem Own.cat {B : Nat} {w : World} {ps qs : List Part} (h : Own B w ps qs) : cat qs = cat ps ∧ tot qs = tot ps := by
  have hz : qs.map Part.zs = ps.map Part.zs := by
    apply List.ext_getElem (by simpa using h.1)
    intro j h1 h2
    simp only [List.length_map] at h1 h2
    have := (h.2 j h2).2.1
    rw [prt_lt h1, prt_lt h2] at this
    simpa using this
  have hn : qs.map Part.n = ps.map Part.n := by
    apply List.ext_getElem (by simpa using h.1)
    intro j h1 h2
    simp only [List.length_map] at h1 h2
    have := (h.2 j h2).1
    rw [prt_lt h1, prt_lt h2] at this
    simpa using this
  exact ⟨by simp only [Ytoldkoeijgnflaa.cat, List.flatMap, hz], by simp only [tot, hn]⟩

theorem own_parts {B B' : Nat} {w : World} {e : TypeId} {a : Option Addr} {n c : Nat} {ps qs : List Part} (h : w.ownsRow B e 1 (.slice a n c) n (qs.map Part.v)) (k : Own B' w ps qs) (hb : ∀ p ∈ ps, Byt p.zs) : Parts w a n c qs := by
  obtain ⟨a', c', hv, hs⟩ := Sl.own h
  cases hv
  refine ⟨hs, fun q hq => ?_⟩
  obtain ⟨j, hj, rfl⟩ := List.getElem_of_mem hq
  have h1 := k.2 j (by rw [← k.1]; exact hj)
  rw [prt_lt hj] at h1
  have h2 := ints_own h1.2.2
  refine ⟨h2, ?_⟩
  rw [h1.2.1]
  exact hb _ (prt_mem (by rw [← k.1]; exact hj))
theorem own_ne {w : World} {B B' : Nat} {e e' : TypeId} {a a' : Option Addr} {n c n' c' : Nat} {xs xs' : List Value} (h : w.ownsRow B e 1 (.slice a n c) n xs) (k : w.ownsRow B' e' 1 (.slice a' n' c') n' xs') (hne : e ≠ e') : ∀ x y, a = some x → a' = some y → x.block ≠ y.block := by
  intro x y hx hy
  subst hx; subst hy
  rcases h.2 with ⟨h1, _⟩ | ⟨g, cap, cur, h1, _, hgb, _⟩
  · cases h1
  · rcases k.2 with ⟨k1, _⟩ | ⟨g', cap', cur', k1, _, hgb', _⟩
    · cases k1
    · cases h1; cases k1
      intro e0
      have e1 : g = g' := e0
      subst e1
      rw [hgb] at hgb'
      simp at hgb'
      exact hne hgb'.2

theorem tot_bd (ps : List Part) (j : Nat) (h : ∀ q ∈ ps, q.n ≤ 140737488351232) : tot (ps.take j) ≤ j * 140737488351232 := by
  have key : ∀ l : List Part, (∀ q ∈ l, q.n ≤ 140737488351232) → tot l ≤ l.length * 140737488351232 := by
    intro l
    induction l with
    | nil => intro _; simp [tot]
    | cons q l ih =>
      intro hl
      have h1 := hl q (by simp)
      have h2 := ih (fun x hx => hl x (by simp [hx]))
      simp only [tot, List.map_cons, List.sum_cons, List.length_cons] at h2 ⊢
      omega
  have h1 := key (ps.take j) (fun q hq => h q (List.mem_of_mem_take hq))
  have h2 : (ps.take j).length ≤ j := by rw [List.length_take]; omega
  exact Nat.le_trans h1 (Nat.mul_le_mul_right _ h2)

/-- a row stays where a row of another type has grown -/
theorem own_kept_ne {w w' : World} {B B' : Nat} {e e' : TypeId} {v v' : Value} {n n' : Nat} {xs xs' : List Value} (h : w.ownsRow B e 1 v n xs) (k : w.ownsRow B' e' 1 v' n' xs') (hne : e ≠ e') (hg : w.grownBy w' v'.ownBlock) : w'.ownsRow B e 1 v n xs := by
  refine h.kept hg ?_
  rcases h.2 with ⟨rfl, _⟩ | ⟨g, cap, cur, rfl, _, hgb, _⟩
  · exact .inl rfl
  · refine .inr fun e0 => ?_
    rcases k.2 with ⟨rfl, _⟩ | ⟨g', cap', cur', rfl, _, hgb', _⟩
    · simp [Value.ownBlock] at e0
    · obtain rfl : g = g' := by simpa [Value.ownBlock] using e0
      rw [hgb] at hgb'
      simp at hgb'
      exact hne hgb'.2
theorem Own.kept {w w' : World} {B B' : Nat} {e' : TypeId} {v' : Value} {n' : Nat} {xs' : List Value} {ps qs : List Part} (h : Own B w ps qs) (k : w.ownsRow B' e' 1 v' n' xs') (hne : 5 ≠ e') (hg : w.grownBy w' v'.ownBlock) : Own B w' ps qs :=
  ⟨h.1, fun j hj => ⟨(h.2 j hj).1, (h.2 j hj).2.1, own_kept_ne (h.2 j hj).2.2 k hne hg⟩⟩
theorem Own.snoc {B : Nat} {w : World} {ps qs : List Part} {k : Nat} {q : Part} (h : Own B w (ps.take k) qs) (hk : k < ps.length) (hn : q.n = (prt ps k).n) (hz : q.zs = (prt ps k).zs) (ho : w.ownsRow B 5 1 (.slice q.a q.n q.c) q.n (q.zs.map (Value.int .u8))) : Own B w (ps.take (k + 1)) (qs ++ [q]) := by
  have hl : qs.length = k := by have := h.1; rw [List.length_take, Nat.min_eq_left (by omega)] at this; exact this
  refine ⟨by simp; omega, fun j hj => ?_⟩
  simp only [List.length_take] at hj
  rw [prt_take (by omega)]
  by_cases e : j = k
  · subst e
    have hq : prt (qs ++ [q]) j = q := by
      have := prt_snoc_eq (qs := qs) (q := q)
      rwa [hl] at this
    rw [hq]
    exact ⟨hn, hz, ho⟩
  · rw [prt_snoc_lt (by omega)]
    have := h.2 j (by rw [List.length_take]; omega)
    rw [prt_take (by omega)] at this
    exact this

set_option maxRecDepth 100000 in
set_option maxHeartbeats 8000000 in
theorem walk_WireJoins (a : Option Addr) (n c : Nat) (ps : List Part) (w : World) (hp : Parts w a n c ps) (hr : ∀ q ∈ ps, q.n ≤ 140737488351232) :
    Calls Try.prog 6 #[.slice a n c] w fun e w' => e = .returned (.bool true) ∧ Below w.heap.size w w' := by
  have hc : n ≤ c ∧ c ≤ 9223372036854775807 := ⟨hp.1.2.1, hp.1.2.2.1⟩
  have L1 := Lib.hid hp.len
  have HP := Lib.hid hp
  have HR := Lib.hid hr
  have hcl := hp.cells
  clear hp hr
  by_cases hbig : 50 < n
  · clear hcl
    go_enter Try.func6, Try.ntmps6
    go_wp2_with fail
    refine (awake_any _).mono ?_
    rintro e w1 ⟨rfl, hb1⟩
    have HB1 := Lib.hid hb1
    clear hb1
    go_wp2_with fail
    refine (awake_any _).mono ?_
    rintro e w2 ⟨rfl, hb2⟩
    have HB2 := Lib.hid (HB1.out.trans (hb2.mono HB1.out.size))
    clear hb2
    go_wp2
    go_ret
    exact ⟨rfl, HB2.out⟩
  · obtain ⟨i0, hi, hz0, hz1, hz2⟩ := info_parts info_u8
    obtain ⟨i1, hi1, hy0, hy1, hy2⟩ := info_parts info_bytes
    obtain ⟨b1, o1, ha, hcx⟩ : ∃ b off, (a = some ⟨b, off, none⟩ ∨ n ≤ 0) ∧ ∀ j, j < n → b < w.heap.size ∧ w.cell? ⟨b, off + j, none⟩ = some (.slice (prt ps j).a (prt ps j).n (prt ps j).c) := by
      rcases hcl with ⟨rfl, _⟩ | ⟨b, off, rfl, hb, _, hcx⟩
      · exact ⟨0, 0, .inr (Nat.le_refl _), fun j hj => absurd hj (by omega)⟩
      · exact ⟨b, off, .inl rfl, fun j hj => ⟨hb, hcx j hj⟩⟩
    have HX := Lib.hid hcx
    clear hcl hcx
    go_enter Try.func6, Try.ntmps6
    go_wp2_with fail
    refine (awake_any _).mono ?_
    rintro e w1 ⟨rfl, hb1⟩
    have HB1 := Lib.hid hb1
    have hs1 := hb1.size
    clear hb1
    go_wp2
    go_loopw [3, 4, 5] (fun v s i wr => ∃ j : Nat, j ≤ n ∧ i = .int .i64 j ∧ s = .int .i64 (tot (ps.take j)) ∧ ∃ (a' : Option Addr) (c' : Nat) (qs : List Part), v = .slice a' j c' ∧
      wr.ownsRow w1.heap.size 22 1 (.slice a' j c') j (qs.map Part.v) ∧ Own w1.heap.size wr (ps.take j) qs ∧ Below w.heap.size w wr ∧ w1.heap.size ≤ wr.heap.size) (fun _ _ i _ => n - (intOf i).toNat)
    case atStart => exact ⟨0, Nat.zero_le _, rfl, rfl, none, 0, [], rfl, World.ownsRow_nil _ _ _ _, ⟨rfl, fun j hj => absurd hj (by simp)⟩, HB1.out, Nat.le_refl _⟩
    case round =>
      obtain ⟨j, hj, rfl, rfl, a', c', qs, rfl, hown, hqs, hbw, hsz⟩ := hrel
      have HO := Lib.hid hown
      have HQ := Lib.hid hqs
      have HW := Lib.hid hbw
      clear hown hqs hbw
      by_cases hlt : j < n
      · obtain rfl : a = some ⟨b1, o1, none⟩ := by rcases ha with h | h; exact h; exact absurd h (by omega)
        have hcj := (HW.out.cell (p := ⟨b1, o1 + j, none⟩) (HX.out j hlt).1).trans (HX.out j hlt).2
        have hpj := HR.out _ (prt_mem (ps := ps) (k := j) (by rw [L1.out]; exact hlt))
        have HI := Lib.hid ((((HP.out.2 _ (prt_mem (ps := ps) (k := j) (by rw [L1.out]; exact hlt))).1).below HW.out).below ((Below.refl _ _).alloc (Nat.le_refl _) (.cells #[] 5)))
        have htb := tot_bd ps j HR.out
        have hst := Lib.hid (tot_take (ps := ps) (k := j) (by rw [L1.out]; exact hlt))
        clear ha
        have hbb : b1 < wr.heap.size := Nat.lt_of_lt_of_le (HX.out j hlt).1 HW.out.size
        have HO0 := Lib.hid (World.ownsRow_made (e := 5) (size := 1) wr #[] 0 hsz (by decide) rfl)
        obtain ⟨q, hq⟩ : ∃ q, q = prt ps j := ⟨_, rfl⟩
        rw [← hq] at hcj hpj HI hst
        have HQE := Lib.hid hq
        clear hq
        go_wp2_with (first | (at_builtin; refine append_own_any _ rfl _ _ 22 rfl w1.heap.size 5 i0 (.int .u8 0) 1 Try.underlying22 hi hz0 hz1 hz2 rfl (.slice (some ⟨wr.heap.size, 0, none⟩) 0 0) _ _ rfl HO0.out _ _ _ (q.zs.map (Value.int .u8)) rfl HI.out (ints_oneCell _ _) (by unfold maxLen; omega) (by omega) (by simp; omega) ?_; intro v2 w2 HO2 hgrow2; obtain ⟨a2, c2, hv2, _⟩ := Sl.own HO2.out; subst hv2; have HO3 := Lib.hid (show w2.ownsRow w1.heap.size 5 1 (.slice a2 q.n c2) q.n (q.zs.map (Value.int .u8)) by have := HO2.out; rw [Nat.zero_add] at this; exact this); have HB2 := Lib.hid (((Below.refl _ wr).alloc (Nat.le_refl _) (.cells #[] 5)).grown hgrow2.out (by simp) (fun k' hk' => by cases hk'; exact Nat.le_refl _)); have HQ2 := Lib.hid (HQ.out.below HB2.out); have HR2 := Lib.hid (own_below HO.out HB2.out); have hsz2 : w1.heap.size ≤ w2.heap.size := Nat.le_trans hsz HB2.out.size; clear HO2 hgrow2) | (at_builtin; refine append_own_any _ rfl _ _ 47 rfl w1.heap.size 22 i1 (.slice none 0 0) 24 Try.underlying47 hi1 hy0 hy1 hy2 rfl (.slice a' j c') _ _ rfl (HR2.out.alloc _) _ _ _ [.slice a2 q.n c2] rfl (Sl.at _ _ [.slice a2 q.n c2] 22 1 rfl rfl (by omega)) (by intro u hu; simp at hu; subst hu; rfl) (by unfold maxLen; omega) (by omega) (by simp; omega) ?_; intro v3 w3 HO4 hgrow3; obtain ⟨a3, c3, hv3, _⟩ := Sl.own HO4.out; subst hv3; have HW3 := Lib.hid (((HW.out.trans (HB2.out.mono HW.out.size)).alloc (by omega) (.cells #[.slice a2 q.n c2] 22)).grown hgrow3.out (by simp; omega) (fun k' hk' => by have := ((HR2.out.alloc (.cells #[.slice a2 q.n c2] 22)).lt k' hk').1; omega)); have hc3 := (HW3.out.cell (p := ⟨b1, o1 + j, none⟩) (HX.out j hlt).1).trans (HX.out j hlt).2; rw [← HQE.out] at hc3; have HQ3 := Lib.hid ((HQ2.out.below ((Below.refl _ w2).alloc (Nat.le_refl _) (.cells #[.slice a2 q.n c2] 22))).kept (HR2.out.alloc _) (by decide) hgrow3.out); have HC3 := Lib.hid (own_kept_ne (HO3.out.alloc (.cells #[.slice a2 q.n c2] 22)) (HR2.out.alloc _) (by decide) hgrow3.out); have hsz3 : w1.heap.size ≤ w3.heap.size := Nat.le_trans hsz2 (Nat.le_trans (by simp) hgrow3.out.size); clear hgrow3))
        have hqs : Own w1.heap.size w3 (ps.take (j + 1)) (qs ++ [(⟨a2, q.n, c2, q.zs⟩ : Part)]) := HQ3.out.snoc (by rw [L1.out]; exact hlt) (by rw [HQE.out]) (by rw [HQE.out]) HC3.out
        have HQ4 := Lib.hid hqs
        have HO5 : Hid (w3.ownsRow w1.heap.size 22 1 (.slice a3 (j + 1) c3) (j + 1) ((qs ++ [(⟨a2, q.n, c2, q.zs⟩ : Part)]).map Part.v)) := by
          have := HO4.out
          rw [List.map_append]
          exact this
        clear HO4 hqs HQ3 HC3
        go_roundw
        case rel => exact ⟨j + 1, by omega, by go_num, by rw [hst.out]; go_num, a3, c3, _, rfl, HO5.out, HQ4.out, HW3.out, hsz3⟩
        case measure => simp [intOf]; omega
      · have hjn : j = n := by omega
        subst hjn
        have hT : ps.take j = ps := List.take_of_length_le (by rw [L1.out]; omega)
        rw [hT] at HQ ⊢
        have htb := tot_bd ps j HR.out
        rw [hT] at htb
        have HA := Lib.hid ha
        clear ha hT
        by_cases h5 : 5000 < tot ps
        · go_wp2
          go_ret
          exact ⟨rfl, HW.out⟩
        · have hct := HQ.out.cat
          have HPQ := Lib.hid (own_parts HO.out HQ.out (fun p hp => (HP.out.2 p hp).2))
          have hqc := HPQ.out.1.2.1
          have hqc2 := HPQ.out.1.2.2.1
          go_wp2_with fail
          refine (join_any _ _ _ _ _ HPQ.out (by rw [hct.2]; omega)).mono ?_
          rintro e wJ ⟨aJ, cJ, rfl, hJ, hbJ⟩
          rw [hct.1, hct.2] at hJ
          rw [hct.2]
          obtain ⟨Bj, hBj⟩ : ∃ Bj, Bj = wr.heap.size := ⟨_, rfl⟩
          have HJ := Lib.hid (show wJ.ownsRow Bj 5 1 (.slice aJ (tot ps) cJ) (tot ps) ((cat ps).map (Value.int .u8)) by rw [hBj]; exact hJ)
          have HOJ := Lib.hid (own_below HO.out hbJ)
          have HQJ := Lib.hid (HQ.out.below hbJ)
          have HBJ := Lib.hid (HW.out.trans (hbJ.mono HW.out.size))
          have HLT := Lib.hid (show ∀ i, i < ps.length → ∀ x, (prt qs i).a = some x → x.block < Bj from fun i hi x hx => by rw [hBj]; exact own_lt (HQ.out.2 i hi).2.2 x hx)
          have hBjw : w.heap.size ≤ Bj := by rw [hBj]; exact HW.out.size
          have hJc := (ints_own HJ.out).cap
          clear hct hJ hbJ HO HQ HW hBj HPQ
          obtain ⟨bq, oq, haq, hcq⟩ : ∃ b off, (a' = some ⟨b, off, none⟩ ∨ j ≤ 0) ∧ ∀ i, i < j → wJ.cell? ⟨b, off + i, none⟩ = some (.slice (prt qs i).a (prt qs i).n (prt qs i).c) := by
            obtain ⟨a2, c2, hv, hs⟩ := Sl.own HOJ.out
            cases hv
            obtain ⟨h1, h2, h3, h4, h5⟩ := hs
            by_cases hj0 : 0 < j
            · obtain ⟨b, off, hb1, _, hb3⟩ := h5 hj0
              refine ⟨b, off, .inl hb1, fun i hi => hb3 i _ ?_⟩
              rw [List.getElem?_map, prt_get? (by simp at h1; omega)]; rfl
            · exact ⟨0, 0, .inr (by omega), fun i hi => absurd hi (by omega)⟩
          have HCQ := Lib.hid hcq
          clear hcq
          go_wp2
          go_loopw [7] (fun i wr2 => ∃ i' : Nat, i' ≤ j ∧ i = .int .i64 i' ∧ Scr (fun x => (w1.heap.size ≤ x ∧ x < Bj) ∧ ∀ y, a' = some y → y.block ≠ x) wJ wr2) (fun i _ => j - (intOf i).toNat)
          case atStart => exact ⟨0, Nat.zero_le _, rfl, Scr.refl _ _⟩
          case round =>
            obtain ⟨i, hi0, rfl, hsc⟩ := hrel
            have HS := Lib.hid hsc
            clear hsc
            by_cases hil : i < j
            · obtain rfl : a' = some ⟨bq, oq, none⟩ := by rcases haq with h | h; exact h; exact absurd h (by omega)
              clear haq
              have hnD : ¬ ((w1.heap.size ≤ bq ∧ bq < Bj) ∧ ∀ y : Addr, some (⟨bq, oq, none⟩ : Addr) = some y → y.block ≠ bq) := fun h => h.2 _ rfl rfl
              have hoc : ∀ wx, Scr (fun x => (w1.heap.size ≤ x ∧ x < Bj) ∧ ∀ y, some (⟨bq, oq, none⟩ : Addr) = some y → y.block ≠ x) wJ wx → wx.cell? ⟨bq, oq + i, none⟩ = some (.slice (prt qs i).a (prt qs i).n (prt qs i).c) := fun wx hx => by
                have h1 := HCQ.out i hil
                have h2 := hx.block bq hnD
                unfold World.cell? at h1 ⊢
                rw [show wx.heap[bq]? = wJ.heap[bq]? from h2]; exact h1
              have HOC := Lib.hid hoc
              have h1 := hoc _ HS.out
              have hown1 := (HQJ.out.2 i (by rw [L1.out]; exact hil)).2.2
              have hne1 := own_ne hown1 HOJ.out (by decide)
              have HLi := Lib.hid (HLT.out i (by rw [L1.out]; exact hil))
              have hbyt := Lib.hid (show Byt (prt qs i).zs by rw [(HQJ.out.2 i (by rw [L1.out]; exact hil)).2.1]; exact (HP.out.2 _ (prt_mem (by rw [L1.out]; exact hil))).2)
              obtain ⟨q, hq⟩ : ∃ q, q = prt qs i := ⟨_, rfl⟩
              rw [← hq] at h1 HOC hown1 hne1 HLi hbyt
              have HW1 := Lib.hid hown1
              have HN1 := Lib.hid hne1
              have hqc3 := (ints_own hown1).cap
              obtain ⟨bs, os, has, hcs⟩ := (ints_own hown1).loc
              have HCS := Lib.hid hcs
              clear hcs hown1 hne1 hnD hoc hq
              go_wp2
              go_loopw [8] (fun k wr3 => ∃ k' : Nat, k' ≤ q.n ∧ k = .int .i64 k' ∧ Scr (fun x => (w1.heap.size ≤ x ∧ x < Bj) ∧ ∀ y, some (⟨bq, oq, none⟩ : Addr) = some y → y.block ≠ x) wJ wr3) (fun k _ => q.n - (intOf k).toNat)
              case atStart => exact ⟨0, Nat.zero_le _, rfl, HS.out⟩
              case round =>
                clear HS h1
                obtain ⟨k, hk, rfl, hsc⟩ := hrel
                have HS := Lib.hid hsc
                have h1 := HOC.out _ hsc
                clear hsc
                by_cases hkl : k < q.n
                · have has2 : q.a = some ⟨bs, os, none⟩ := by rcases has with h | h; exact h; exact absurd h (by omega)
                  have hzb := hbyt.out.nth k
                  obtain ⟨z, hz, hzb0, hzb1⟩ := HS.out.cell bs (os + k) _ (HCS.out k hkl).2 hzb.1 hzb.2
                  have hfr := (HS.out.frozen ⟨bs, os + k, none⟩).trans ((own_frozen HW1.out _ has2).2 _)
                  have hg1 := (own_frozen HW1.out _ has2).1
                  have HD := Lib.hid (show (w1.heap.size ≤ bs ∧ bs < Bj) ∧ ∀ y : Addr, some (⟨bq, oq, none⟩ : Addr) = some y → y.block ≠ bs from ⟨⟨hg1, HLi.out _ has2⟩, fun y hy e => HN1.out _ _ has2 hy e.symm⟩)
                  rw [has2] at h1
                  clear has hg1
                  go_wp2
                  go_roundw
                  case rel => exact ⟨k + 1, by omega, by go_num, HS.out.set (b := bs) (o := os + k) HD.out hz (by omega) (by omega)⟩
                  case measure => simp [intOf]; omega
                · clear has
                  go_wp2
                  go_roundw
                  case rel => exact ⟨i + 1, by omega, by go_num, HS.out⟩
                  case measure => simp [intOf]; omega
            · have HB9 := Lib.hid (HBJ.out.trans (HS.out.below (B := w.heap.size) (fun k hk => by omega)))
              have HI9 := Lib.hid ((ints_own HJ.out).scr HS.out (fun x hx => by have := own_ge HJ.out x hx; intro h; omega))
              clear haq HCQ HS
              go_wp2_with fail
              refine (refjoin_any _ _ _ _ _ (HP.out.below HB9.out) (by omega)).mono ?_
              rintro e wK ⟨aK, cK, rfl, hK, hbK⟩
              have HI10 := Lib.hid (HI9.out.below hbK)
              have HIK := Lib.hid (ints_own hK)
              have HB10 := Lib.hid (HB9.out.trans (hbK.mono HB9.out.size))
              clear hK hbK HI9 HB9
              go_wp2_with fail
              refine (same_any _ _ _ _ _ _ _ _ _ HI10.out HIK.out).mono ?_
              rintro e wL ⟨rfl, hbL⟩
              rw [eqL_true rfl]
              have HB11 := Lib.hid (HB10.out.trans (hbL.mono HB10.out.size))
              clear hbL
              go_wp2
              go_ret
              exact ⟨rfl, HB11.out⟩

end Go.Proofs.Ytoldkoeijgnflaa

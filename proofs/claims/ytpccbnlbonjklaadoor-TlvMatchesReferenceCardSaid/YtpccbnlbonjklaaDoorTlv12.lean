/- The reference's Split. -/
import Derived.Test.YtpccbnlbonjklaaDoorTlvP
import Derived.Deep.RegionLaw
import Derived.Deep.AppendLies
import Derived.OneCell
namespace Go.Proofs.YtpccbnlbonjklaaDoor
set_option maxRecDepth 100000
set_option linter.unusedVariables false
open Go.RowKit

theorem results_cell1 {fn : Func} {p : Tmp} {ty : TypeId} (h : fn.results = #[.cell p ty]) (tmps : Array Value) (P : Program) (w : World) :
    (results fn tmps).run P w = ((asAddr (tmps.getD p undef)).run P w).andThen fun a w₁ => ((loadVar ty a).run P w₁).andThen fun x w₂ => .ok x w₂ := by
  simp only [results, h]
  simp [Sem.run_bind, Result.andThen]
  rcases Sem.run P (asAddr (tmps[p]?.getD undef)) w with ⟨a, w1⟩ | ⟨h1, w1⟩
  · simp only
    rcases Sem.run P (loadVar ty a) w1 with ⟨_, _⟩ | ⟨_, _⟩ <;> rfl
  · rfl
theorem load_result (b : Nat) (x y z u : Value) (w : World) (h0 : w.cell? ⟨b, 0, none⟩ = some x) (h1 : w.cell? ⟨b, 1, none⟩ = some y) (h2 : w.cell? ⟨b, 2, none⟩ = some z) (h3 : w.cell? ⟨b, 3, none⟩ = some u) :
    (loadVar 32 ⟨b, 0, none⟩).run Tryd.prog w = .ok (.agg #[x, y, z, u]) w := by
  have hl : (loadCells ⟨b, 0, none⟩ 4).run Tryd.prog w = .ok #[x, y, z, u] w := run_loadCells_list (P := Tryd.prog) (w := w) ⟨b, 0, none⟩ [x, y, z, u] (fun j v hj => by
    match j, hj with
    | 0, hj => cases hj; exact h0
    | 1, hj => cases hj; exact h1
    | 2, hj => cases hj; exact h2
    | 3, hj => cases hj; exact h3)
  simp [loadVar, isAgg, underlying, Tryd.underlying32, hl, Result.andThen]
/-- rows of two types lie apart -/
theorem own_apart {w : World} {b b' : Nat} {e e' : TypeId} {s s' n n' : Nat} {v v' : Value} {xs xs' : List Value} (h : w.ownsRow b e s v n xs) (k : w.ownsRow b' e' s' v' n' xs') (he : e ≠ e') : ∀ g, v.ownBlock = some g → v'.ownBlock ≠ some g := by
  intro g h1 h2
  rcases h.2 with ⟨rfl, _⟩ | ⟨g1, cap, cur, rfl, _, hh, _⟩
  · cases h1
  · rcases k.2 with ⟨rfl, _⟩ | ⟨g2, cap2, cur2, rfl, _, hh2, _⟩
    · cases h2
    · have e1 : g1 = g := by simpa [Value.ownBlock] using h1
      have e2 : g2 = g := by simpa [Value.ownBlock] using h2
      subst e1; subst e2
      rw [hh] at hh2
      cases hh2
      exact he rfl
theorem own_far {w w' : World} {row : Option Nat} {b : Nat} {e : TypeId} {s n : Nat} {v : Value} {xs : List Value} (h : w.ownsRow b e s v n xs) (hg : w.grownBy w' row) (hr : ∀ g, v.ownBlock = some g → row ≠ some g) : w'.ownsRow b e s v n xs := by
  obtain ⟨h1, h2⟩ := h
  refine ⟨h1, ?_⟩
  rcases h2 with ⟨rfl, h2⟩ | ⟨g, cap, cur, rfl, hg1, hh, h3⟩
  · exact .inl ⟨rfl, h2⟩
  · exact .inr ⟨g, cap, cur, rfl, hg1, (hg.block g (Array.getElem?_eq_some_iff.1 hh).1 (fun e => hr g rfl e.symm)).trans hh, h3⟩
theorem own_set {w : World} {b B o : Nat} {u : Value} {e : TypeId} {s n : Nat} {v : Value} {xs : List Value} (h : w.ownsRow b e s v n xs) (hB : B < b) : (w.setCell ⟨B, o, none⟩ u).ownsRow b e s v n xs := by
  obtain ⟨h1, h2⟩ := h
  refine ⟨h1, ?_⟩
  rcases h2 with ⟨rfl, h2⟩ | ⟨g, cap, cur, rfl, hg1, hh, h3⟩
  · exact .inl ⟨rfl, h2⟩
  · refine .inr ⟨g, cap, cur, rfl, hg1, ?_, h3⟩
    rw [Below.heap_setCell _ _ _ _ (by show g ≠ B; omega)]
    exact hh

theorem cell_ne {W : World} {B B' o o' : Nat} {u x : Value} (h : W.cell? ⟨B, o, none⟩ = some x) (hne : B' ≠ B ∨ o' ≠ o) : (W.setCell ⟨B', o', none⟩ u).cell? ⟨B, o, none⟩ = some x := by
  rw [World.cell?_setCell_other _ _ _ _ (fun e => by
    have e1 := congrArg Addr.block e
    have e2 := congrArg Addr.off e
    simp only at e1 e2
    omega)]
  exact h
theorem set4 {W : World} {B : Nat} {x0 x1 x2 x3 y0 y1 y2 y3 : Value} (h0 : W.cell? ⟨B, 0, none⟩ = some y0) (h1 : W.cell? ⟨B, 1, none⟩ = some y1) (h2 : W.cell? ⟨B, 2, none⟩ = some y2) (h3 : W.cell? ⟨B, 3, none⟩ = some y3) :
    ∃ Z, (((W.setCell ⟨B, 0, none⟩ x0).setCell ⟨B, 1, none⟩ x1).setCell ⟨B, 2, none⟩ x2).setCell ⟨B, 3, none⟩ x3 = Z ∧ Z.cell? ⟨B, 0, none⟩ = some x0 ∧ Z.cell? ⟨B, 1, none⟩ = some x1 ∧ Z.cell? ⟨B, 2, none⟩ = some x2 ∧ Z.cell? ⟨B, 3, none⟩ = some x3 ∧ Below B W Z ∧
      ∀ {b : Nat} {e : TypeId} {s n : Nat} {v : Value} {xs : List Value}, B < b → W.ownsRow b e s v n xs → Z.ownsRow b e s v n xs := by
  refine ⟨_, rfl, ?_, ?_, ?_, ?_, ?_, ?_⟩
  · exact cell_ne (cell_ne (cell_ne (World.cell?_setCell_same _ _ _ h0) (.inr (by decide))) (.inr (by decide))) (.inr (by decide))
  · exact cell_ne (cell_ne (World.cell?_setCell_same _ _ _ (cell_ne h1 (.inr (by decide)))) (.inr (by decide))) (.inr (by decide))
  · exact cell_ne (World.cell?_setCell_same _ _ _ (cell_ne (cell_ne h2 (.inr (by decide))) (.inr (by decide)))) (.inr (by decide))
  · exact World.cell?_setCell_same _ _ _ (cell_ne (cell_ne (cell_ne h3 (.inr (by decide))) (.inr (by decide))) (.inr (by decide)))
  · exact ((((Below.refl B W).setCell (p := ⟨B, 0, none⟩) (Nat.le_refl _) _).setCell (p := ⟨B, 1, none⟩) (Nat.le_refl _) _).setCell (p := ⟨B, 2, none⟩) (Nat.le_refl _) _).setCell (p := ⟨B, 3, none⟩) (Nat.le_refl _) _
  · intro b e s n v xs hB h
    exact own_set (own_set (own_set (own_set h hB) hB) hB) hB

theorem lies2 (w : World) (x y : Value) (e : TypeId) : ∀ j u, ([x, y] : List Value)[j]? = some u → (w.alloc (.cells #[x, y] e)).drew.cell? ((⟨w.heap.size, 0, none⟩ : Addr).add j) = some u := by
  intro j u hu
  rw [Addr.add_lit]
  have h := (Sl.at w w.heap.size [x, y] e 2 rfl rfl (by omega)).2.2.2.2 (by omega)
  obtain ⟨b', o', hb, _, hc⟩ := h
  cases hb
  exact hc j u hu
theorem one2 (f : Fr) : ∀ u ∈ f.cs, u.oneCell' = true := by
  intro u hu
  simp only [Fr.cs, List.mem_cons, List.not_mem_nil, or_false] at hu
  rcases hu with rfl | rfl <;> rfl
theorem set_blk0 {w : World} {b : Nat} {x y z u v : Value} {t : TypeId} (h : w.heap[b]? = some (.cells #[x, y, z, u] t (0, 0))) : (w.setCell ⟨b, 0, none⟩ v).heap[b]? = some (.cells #[v, y, z, u] t (0, 0)) := by
  have hlt := lt_of_block h
  have h' : w.heap[b] = .cells #[x, y, z, u] t (0, 0) := by simpa [Array.getElem?_eq_getElem hlt] using h
  show (w.heap.modify b _)[b]? = _
  rw [Array.getElem?_eq_getElem (by simpa using hlt), Array.getElem_modify_self, h']
  rfl
theorem set_blk1 {w : World} {b : Nat} {x y z u v : Value} {t : TypeId} (h : w.heap[b]? = some (.cells #[x, y, z, u] t (0, 0))) : (w.setCell ⟨b, 1, none⟩ v).heap[b]? = some (.cells #[x, v, z, u] t (0, 0)) := by
  have hlt := lt_of_block h
  have h' : w.heap[b] = .cells #[x, y, z, u] t (0, 0) := by simpa [Array.getElem?_eq_getElem hlt] using h
  show (w.heap.modify b _)[b]? = _
  rw [Array.getElem?_eq_getElem (by simpa using hlt), Array.getElem_modify_self, h']
  rfl
theorem own_apart' {w : World} {b b' : Nat} {e e' : TypeId} {s s' n n' : Nat} {v v' : Value} {xs xs' : List Value} (h : w.ownsRow b e s v n xs) (k : w.ownsRow b' e' s' v' n' xs') (he : e ≠ e') : ∀ g, v'.ownBlock = some g → v.ownBlock ≠ some g := own_apart k h (Ne.symm he)
theorem gap_same {p m : Nat} (h : p % 4 = 0) : Pd.gap ((p : Int) + (m : Int)) = Pd.gap m := by unfold Pd.gap; omega
theorem gap_step {p m : Nat} {q : Nat} (h : (q : Int) = (p : Int) + (m : Int) + Pd.gap ((p : Int) + (m : Int))) : q % 4 = 0 := by unfold Pd.gap at h; omega

theorem nx_eq {zs : List Int} {x : Int} {en kn : Nat} (hx : x = en) (hk : x + Pd.gap x = kn) (h1 : en ≤ zs.length) (h2 : kn ≤ zs.length) : Pd.nextB zs x = Pd.zeros ((zs.take kn).drop en) := by
  rw [Pd.nextB, hk, hx, Int.toNat_natCast, Int.toNat_natCast]
  have a1 : decide ((0 : Int) ≤ (en : Int)) = true := by simp
  have a2 : decide ((en : Int) ≤ (zs.length : Int)) = true := by simp; omega
  have a3 : decide ((kn : Int) ≤ (zs.length : Int)) = true := by simp; omega
  rw [a1, a2, a3]
  simp
theorem nx_far {zs : List Int} {x : Int} (h : (zs.length : Int) ≤ x + Pd.gap x) : Pd.nextB zs x = false ∨ x + Pd.gap x = zs.length := by
  by_cases e : x + Pd.gap x = zs.length
  · exact .inr e
  · refine .inl ?_
    have : decide (x + Pd.gap x ≤ zs.length) = false := by simp; omega
    simp [Pd.nextB, this]
set_option maxHeartbeats 8000000 in
theorem refSplit_any (a : Option Addr) (n c : Nat) (zs : List Int) (w : World) (hx : Ints .u8 w a n c zs) (hb : Byt zs) (hn : n ≤ 1000000) :
    Calls Tryd.prog 8 #[.slice a n c] w fun e w' => ∃ fs r af cf ao co', Run zs 0 (msF fs) r ∧ fs.length ≤ n ∧ Below w.heap.size w w' ∧ Frs w' af fs.length cf fs ∧
      (r = none ∧ e = .returned (.agg #[.slice af fs.length cf, .slice ao fs.length co', .int .i64 0, .int .i64 0]) ∨ ∃ co at', r = some (co, at') ∧ e = .returned (.agg #[.slice af fs.length cf, .slice ao fs.length co', .int .i64 co, .int .i64 at'])) := by
  obtain ⟨i0, hi, hz0, hz1, hz2⟩ := info_parts infoR
  obtain ⟨i1, hi1, hy0, hy1, hy2⟩ := info_parts info_int
  have hcap := hx.cap
  have HX := Lib.hid hx
  have HL := Lib.hid hx.len
  have HB := Lib.hid hb
  clear hx hb
  go_enter Tryd.func8, Tryd.ntmps8
  go_wp2
  obtain ⟨w0, hw0⟩ : ∃ w0, (w.alloc (.cells #[.slice none 0 0, .slice none 0 0, .int .i64 0, .int .i64 0] 32)).alloc (.cells #[.slice none 0 0, .slice none 0 0, .int .i64 0, .int .i64 0] 32) = w0 := ⟨_, rfl⟩
  rw [hw0]
  have hs0 : w0.heap.size = w.heap.size + 1 + 1 := by rw [← hw0]; simp
  have HB0 := Lib.hid (show Below w.heap.size w w0 by rw [← hw0]; exact ((Below.refl _ w).alloc (Nat.le_refl _) _).alloc (by simp) _)
  have HR0 := Lib.hid (show w0.heap[w.heap.size + 1]? = some (.cells #[.slice none 0 0, .slice none 0 0, .int .i64 0, .int .i64 0] 32 (0, 0)) by
    rw [← hw0]
    have h := Array.getElem?_push_size (xs := (w.alloc (.cells #[.slice none 0 0, .slice none 0 0, .int .i64 0, .int .i64 0] 32)).heap) (x := Obj.cells #[.slice none 0 0, .slice none 0 0, .int .i64 0, .int .i64 0] 32 (0, 0))
    rwa [World.size_alloc] at h)
  have HQ0 := Lib.hid (show w0.heap[w.heap.size]? = some (.cells #[.slice none 0 0, .slice none 0 0, .int .i64 0, .int .i64 0] 32 (0, 0)) by
    rw [← hw0]
    have h1 : (w.alloc (.cells #[.slice none 0 0, .slice none 0 0, .int .i64 0, .int .i64 0] 32)).heap[w.heap.size]? = some (.cells #[.slice none 0 0, .slice none 0 0, .int .i64 0, .int .i64 0] 32 (0, 0)) := Array.getElem?_push_size
    exact (((Below.refl (w.heap.size + 1) (w.alloc (.cells #[.slice none 0 0, .slice none 0 0, .int .i64 0, .int .i64 0] 32))).alloc (by simp) _).block w.heap.size (by omega)).trans h1)
  clear hw0
  go_loopw [4] (fun i wr => ∃ (p : Nat) (fs : List Fr) (offs : List Int) (av : Option Addr) (cv : Nat) (ao : Option Addr) (co : Nat), p ≤ n ∧ i = .int .i64 p ∧ fs.length ≤ p ∧ Hid (p % 4 = 0 ∨ p = n) ∧ Hid (wr.heap[w.heap.size + 1]? = some (.cells #[.slice av fs.length cv, .slice ao fs.length co, .int .i64 0, .int .i64 0] 32 (0, 0))) ∧
    Hid (wr.heap[w.heap.size]? = some (.cells #[.slice none 0 0, .slice none 0 0, .int .i64 0, .int .i64 0] 32 (0, 0))) ∧ Hid (wr.ownsRow (w.heap.size + 2) 51 2 (.slice av fs.length cv) fs.length (cellsF fs)) ∧ Hid (wr.ownsRow (w.heap.size + 2) 3 1 (.slice ao fs.length co) fs.length (offs.map (Value.int .i64))) ∧
    Hid (∀ f ∈ fs, f.ok w) ∧ Hid (∀ gs r, Run zs p gs r → Run zs 0 (msF fs ++ gs) r) ∧ Below w.heap.size w wr ∧ w.heap.size + 2 ≤ wr.heap.size) (fun i _ => n - (intOf i).toNat)
  case atStart => exact ⟨0, [], [], none, 0, none, 0, Nat.zero_le _, rfl, Nat.zero_le _, Lib.hid (.inl rfl), HR0, HQ0, Lib.hid (World.ownsRow_nil _ _ _ _), Lib.hid (World.ownsRow_nil _ _ _ _), Lib.hid (fun f hf => by cases hf), Lib.hid (fun gs r h => h), HB0.out, by omega⟩
  case round =>
    obtain ⟨p, fs, offs, av, cv, ao, co, hp, rfl, hfl, HP4, HR, HQ, HV, HO, HOK, HRN, hbw, hsw⟩ := hrel
    have HW := Lib.hid hbw
    have hsw0 := hbw.size
    clear hbw
    have r0 := bb_cell HR.out 0
    have r1 := bb_cell HR.out 1
    have r2 := bb_cell HR.out 2
    have r3 := bb_cell HR.out 3
    have g0 := bb_frozen HR.out 0
    have g1 := bb_frozen HR.out 1
    have g2 := bb_frozen HR.out 2
    have g3 := bb_frozen HR.out 3
    have q0 := bb_cell HQ.out 0
    have q1 := bb_cell HQ.out 1
    have q2 := bb_cell HQ.out 2
    have q3 := bb_cell HQ.out 3
    have k0 := bb_frozen HQ.out 0
    have k1 := bb_frozen HQ.out 1
    have k2 := bb_frozen HQ.out 2
    have k3 := bb_frozen HQ.out 3
    simp only [List.getElem?_toArray, List.getElem?_cons_zero, List.getElem?_cons_succ] at r0 r1 r2 r3 q0 q1 q2 q3
    by_cases hlt : p < n
    · by_cases h4 : p + 4 ≤ n
      · obtain ⟨bb, off, rfl⟩ : ∃ b off, a = some ⟨b, off, none⟩ := by
          rcases HX.out.cells with ⟨h, _⟩ | ⟨b, off, h, _⟩
          · omega
          · exact ⟨b, off, h⟩
        have hmb := lenAt_bd HB.out p
        have htb := typAt_bd HB.out p
        have hwm : IntKind.i64.wrap (lenAt zs p : Int) = lenAt zs p := by rw [IntKind.wrap_i64]; omega
        have hwt : IntKind.u16.wrap (typAt zs p) = typAt zs p := by rw [IntKind.wrap_u16]; omega
        have d4 : decide ((n : Int) < (p : Int) + 4) = false := by simp; omega
        go_wp2_with fail
        refine (Wr.refnumber_yes _ n c zs p 2 _ (HX.out.below HW.out) HB.out (by omega) (by decide) (by omega)).mono ?_
        rintro e w1 ⟨rfl, rfl⟩
        rw [show Wr.num ((zs.drop p).take 2) = typAt zs p from rfl]
        go_wp2_with fail
        rw [show (p : Int) + 2 = ((p + 2 : Nat) : Int) by omega]
        refine (Wr.refnumber_yes _ n c zs (p + 2) 2 _ (HX.out.below HW.out) HB.out (by omega) (by decide) (by omega)).mono ?_
        rintro e w1 ⟨rfl, rfl⟩
        rw [lenAt_eq HB.out]
        by_cases hm1 : lenAt zs p < 4
        · have d5 : decide ((lenAt zs p : Int) < 4) = true := by simp; omega
          go_wp2
          obtain ⟨Z, hZ, z0, z1, z2, z3, hZB, hZO⟩ := set4 (W := (wr.setCell ⟨w.heap.size + 1, 2, none⟩ (.int .i64 4)).setCell ⟨w.heap.size + 1, 3, none⟩ (.int .i64 (p : Int))) (B := w.heap.size) (x0 := .slice av fs.length cv) (x1 := .slice ao fs.length co) (x2 := .int .i64 4) (x3 := .int .i64 (p : Int)) (cell_ne (cell_ne q0 (.inl (by omega))) (.inl (by omega))) (cell_ne (cell_ne q1 (.inl (by omega))) (.inl (by omega))) (cell_ne (cell_ne q2 (.inl (by omega))) (.inl (by omega))) (cell_ne (cell_ne q3 (.inl (by omega))) (.inl (by omega)))
          rw [hZ]
          have hbz : Below w.heap.size w Z := ((HW.out.setCell (p := ⟨w.heap.size + 1, 2, none⟩) (Nat.le_succ _) _).setCell (p := ⟨w.heap.size + 1, 3, none⟩) (Nat.le_succ _) _).trans hZB
          have hrow := hZO (by omega : w.heap.size < w.heap.size + 2) (own_set (own_set HV.out (by omega)) (by omega))
          obtain ⟨a', c', hv, hfr⟩ := Frs.own hrow (fun f hf => (HOK.out f hf).below hbz)
          simp only [Value.slice.injEq, true_and] at hv
          obtain ⟨rfl, rfl⟩ := hv
          have hld := load_result w.heap.size _ _ _ _ Z z0 z1 z2 z3
          refine bodyPost_ret (v := .agg #[.slice av fs.length cv, .slice ao fs.length co, .int .i64 4, .int .i64 (p : Int)]) ?_ rfl ?_
          · rw [results_cell1 rfl]
            simp [asAddr, Result.andThen, hld]
          · exact ⟨fs, some (4, (p : Int)), av, cv, ao, co, by simpa using HRN.out [] _ (Run.err (by rw [HL.out]; exact hlt) (.inl ⟨.inr (by rw [HL.out]; omega), rfl, rfl⟩)), by omega, hbz, hfr, .inr ⟨4, (p : Int), rfl, rfl⟩⟩
        · have d5 : decide ((lenAt zs p : Int) < 4) = false := by simp; omega
          obtain ⟨en, hen⟩ : ∃ en : Nat, (p : Int) + (lenAt zs p : Int) = en := ⟨p + lenAt zs p, by omega⟩
          by_cases hm2 : n < p + lenAt zs p
          · have d6 : decide ((n : Int) < (en : Int)) = true := by simp; omega
            go_wp2
            obtain ⟨Z, hZ, z0, z1, z2, z3, hZB, hZO⟩ := set4 (W := (wr.setCell ⟨w.heap.size + 1, 2, none⟩ (.int .i64 4)).setCell ⟨w.heap.size + 1, 3, none⟩ (.int .i64 (p : Int))) (B := w.heap.size) (x0 := .slice av fs.length cv) (x1 := .slice ao fs.length co) (x2 := .int .i64 4) (x3 := .int .i64 (p : Int)) (cell_ne (cell_ne q0 (.inl (by omega))) (.inl (by omega))) (cell_ne (cell_ne q1 (.inl (by omega))) (.inl (by omega))) (cell_ne (cell_ne q2 (.inl (by omega))) (.inl (by omega))) (cell_ne (cell_ne q3 (.inl (by omega))) (.inl (by omega)))
            rw [hZ]
            have hbz : Below w.heap.size w Z := ((HW.out.setCell (p := ⟨w.heap.size + 1, 2, none⟩) (Nat.le_succ _) _).setCell (p := ⟨w.heap.size + 1, 3, none⟩) (Nat.le_succ _) _).trans hZB
            have hrow := hZO (by omega : w.heap.size < w.heap.size + 2) (own_set (own_set HV.out (by omega)) (by omega))
            obtain ⟨a', c', hv, hfr⟩ := Frs.own hrow (fun f hf => (HOK.out f hf).below hbz)
            simp only [Value.slice.injEq, true_and] at hv
            obtain ⟨rfl, rfl⟩ := hv
            have hld := load_result w.heap.size _ _ _ _ Z z0 z1 z2 z3
            refine bodyPost_ret (v := .agg #[.slice av fs.length cv, .slice ao fs.length co, .int .i64 4, .int .i64 (p : Int)]) ?_ rfl ?_
            · rw [results_cell1 rfl]
              simp [asAddr, Result.andThen, hld]
            · exact ⟨fs, some (4, (p : Int)), av, cv, ao, co, by simpa using HRN.out [] _ (Run.err (by rw [HL.out]; exact hlt) (.inl ⟨.inr (by rw [HL.out]; omega), rfl, rfl⟩)), by omega, hbz, hfr, .inr ⟨4, (p : Int), rfl, rfl⟩⟩
          · have d6 : decide ((n : Int) < (en : Int)) = false := by simp; omega
            obtain ⟨p4, hp4e⟩ : ∃ p4 : Nat, p4 = p + 4 := ⟨_, rfl⟩
            have hw4 : (p : Int) + 4 = (p4 : Int) := by omega
            have hpe : p4 ≤ en := by omega
            have hwp : IntKind.i64.wrap (p4 : Int) = p4 := by rw [IntKind.wrap_i64]; omega
            have hec : en ≤ c := by omega
            obtain ⟨A, hA, hIA⟩ : ∃ A : Addr, (if c = p4 then some (⟨bb, off, none⟩ : Addr) else some ⟨bb, off + p4, none⟩) = some A ∧ Ints .u8 w (some A) (en - p4) (c - p4) (valAt zs p) := by
              have hv : valAt zs p = (zs.take en).drop p4 := by rw [valAt, List.drop_take, hp4e]; congr 1; omega
              rw [hv]
              by_cases hcp : c = p4
              · refine ⟨⟨bb, off, none⟩, by rw [if_pos hcp], ?_⟩
                have := HX.out.sub_end (lo := p4) (hi := en) (by omega) (by omega) hcp
                rwa [show c - p4 = 0 by omega]
              · refine ⟨⟨bb, off + p4, none⟩, by rw [if_neg hcp], ?_⟩
                have := HX.out.sub (lo := p4) (hi := en) (by omega) (by omega)
                simpa [Addr.add_lit] using this
            obtain ⟨F, hF⟩ : ∃ F : Fr, F = ⟨typAt zs p, ⟨some A, en - p4, c - p4, valAt zs p⟩⟩ := ⟨_, rfl⟩
            have hFok : F.ok w := by rw [hF]; exact ⟨hIA, (HB.out.drop _).take _, htb⟩
            have hFcs : F.cs = [.int .u16 (typAt zs p), .slice (some A) (en - p4) (c - p4)] := by rw [hF]; rfl
            have hFm : F.m = (typAt zs p, valAt zs p) := by rw [hF]; rfl
            have HFOK := Lib.hid hFok
            have HFM := Lib.hid hFm
            have HEN := Lib.hid hen
            have HP4E := Lib.hid hp4e
            have ra := (World.cell?_alloc_lt wr (.cells #[.int .u16 (typAt zs p), .slice (some A) (en - p4) (c - p4)] 51) ⟨w.heap.size + 1, 0, none⟩ (by show w.heap.size + 1 < _; omega)).trans r0
            clear hF hFok hFm hIA hp4e
            by_cases he : p + lenAt zs p = n
            · have d7 : decide ((en : Int) < (n : Int)) = false := by simp; omega
              have hok : OkAt zs p n := ⟨by rw [HL.out]; omega, by omega, .inl ⟨by rw [HL.out]; omega, HL.out.symm⟩⟩
              have HOKA := Lib.hid hok
              clear hok
              go_wp2
              go_region_law (first | (refine step_append_lies _ rfl _ _ 29 rfl (w.heap.size + 2) 51 i0 (.agg #[.int .u16 0, .slice none 0 0]) 2 32 Tryd.underlying29 hi hz0 hz1 hz2 rfl (by decide) (.slice av fs.length cv) fs.length (cellsF fs) rfl (HV.out.alloc _) ⟨wr.heap.size, 0, none⟩ 1 1 F.cs rfl rfl (by rw [hFcs]; exact lies2 wr _ _ _) (one2 F) (by decide) (by unfold maxLen; omega) (by omega) (by simp; omega) _ rfl ?_; intro g cap w2 hown2 hgrow2 hat2 hlt2; have HGR := Lib.hid hgrow2; have HO2 := Lib.hid hown2; have HR2 := Lib.hid ((hgrow2.block (w.heap.size + 1) (by simp; omega) (fun e => by have := (HV.out.lt _ e.symm).1; omega)).trans (((Below.refl wr.heap.size wr).alloc (Nat.le_refl _) _).drew.block (w.heap.size + 1) (by omega) |>.trans HR.out)); have t0 := bb_cell HR2.out 0; have t1 := bb_cell HR2.out 1; have u0 := bb_frozen HR2.out 0; have u1 := bb_frozen HR2.out 1; clear hown2 hgrow2))
              all_goals
                obtain ⟨w3, hw3⟩ : ∃ w3, w2.setCell ⟨w.heap.size + 1, 0, none⟩ (.slice (some ⟨g, 0, none⟩) (fs.length + 1) cap) = w3 := ⟨_, rfl⟩
                rw [hw3]
                have hbd : Below wr.heap.size wr ((wr.alloc (.cells #[.int .u16 (typAt zs p), .slice (some A) (en - p4) (c - p4)] 51)).drew) := ((Below.refl wr.heap.size wr).alloc (Nat.le_refl _) _).drew
                have HR3 := Lib.hid (show w3.heap[w.heap.size + 1]? = some (.cells #[.slice (some ⟨g, 0, none⟩) (fs.length + 1) cap, .slice ao fs.length co, .int .i64 0, .int .i64 0] 32 (0, 0)) by rw [← hw3]; exact set_blk0 HR2.out)
                have HQ3 := Lib.hid (show w3.heap[w.heap.size]? = some (.cells #[.slice none 0 0, .slice none 0 0, .int .i64 0, .int .i64 0] 32 (0, 0)) by
                  rw [← hw3, Below.heap_setCell _ _ _ _ (by show w.heap.size ≠ w.heap.size + 1; omega)]
                  exact (HGR.out.block w.heap.size (by simp; omega) (fun e => by have := (HV.out.lt _ e.symm).1; omega)).trans ((hbd.block w.heap.size (by omega)).trans HQ.out))
                have HV3 := Lib.hid (show w3.ownsRow (w.heap.size + 2) 51 2 (.slice (some ⟨g, 0, none⟩) (fs.length + 1) cap) (fs.length + 1) (cellsF (fs ++ [F])) by
                  rw [← hw3, cellsF_append]
                  have h := HO2.out
                  exact own_set (by simpa [cellsF] using h) (by omega))
                have HO3 := Lib.hid (show w3.ownsRow (w.heap.size + 2) 3 1 (.slice ao fs.length co) fs.length (offs.map (Value.int .i64)) by
                  rw [← hw3]
                  exact own_set (own_far (own_below HO.out hbd) HGR.out (own_apart' HV.out HO.out (by decide))) (by omega))
                have HW3 := Lib.hid (show Below w.heap.size w w3 by
                  rw [← hw3]
                  exact ((HW.out.trans (hbd.mono hsw0)).grown HGR.out (by simp; omega) (fun k' hk' => by have := (HV.out.lt k' hk').1; omega)).setCell (p := ⟨w.heap.size + 1, 0, none⟩) (Nat.le_succ _) _)
                have hs3 : w.heap.size + 2 ≤ w3.heap.size := by
                  rw [← hw3]
                  have h1 := HGR.out.size
                  have h2 : (w2.setCell ⟨w.heap.size + 1, 0, none⟩ (.slice (some ⟨g, 0, none⟩) (fs.length + 1) cap)).heap.size = w2.heap.size := by simp [World.setCell]
                  rw [h2]
                  simp at h1
                  omega
                clear hw3 hbd t0 t1 u0 u1 ra r0 r1 r2 r3 g0 g1 g2 g3 q0 q1 q2 q3 k0 k1 k2 k3 HR HQ HV HO HW
                have t1 := bb_cell HR3.out 1
                have u1 := bb_frozen HR3.out 1
                simp only [List.getElem?_toArray, List.getElem?_cons_zero, List.getElem?_cons_succ] at t1
                have HT1 := Lib.hid t1
                have HU1 := Lib.hid u1
                go_wp2_with (at_builtin; refine append_own_any _ rfl _ _ 30 rfl (w.heap.size + 2) 3 i1 (.int .i64 0) 8 Tryd.underlying30 hi1 hy0 hy1 hy2 rfl _ _ _ rfl (HO3.out.alloc _) _ _ _ [.int .i64 (p : Int)] rfl (Sl.at _ _ [.int .i64 (p : Int)] 3 1 rfl rfl (by omega)) (Wr.ints_oneCell .i64 [(p : Int)]) (by unfold maxLen; omega) (by omega) (by simp; omega) ?_; intro v4 w4 hown4 hgrow4; obtain ⟨a4, c4, hv4, _⟩ := Sl.own hown4.out; subst hv4; have HR4 := Lib.hid ((hgrow4.out.block (w.heap.size + 1) (by simp; omega) (fun e => by have := (HO3.out.lt _ e.symm).1; omega)).trans ((((Below.refl w3.heap.size w3).alloc (Nat.le_refl _) _).block (w.heap.size + 1) (by omega)).trans HR3.out)); have t4 := bb_cell HR4.out 1; have u4' := bb_frozen HR4.out 1; simp only [List.getElem?_toArray, List.getElem?_cons_zero, List.getElem?_cons_succ] at t4)
                have HO4 := Lib.hid (show w4.ownsRow (w.heap.size + 2) 3 1 (.slice a4 (fs.length + 1) c4) (fs.length + 1) ((offs ++ [(p : Int)]).map (Value.int .i64)) by rw [List.map_append]; exact hown4.out)
                have hbd4 : Below w3.heap.size w3 (w3.alloc (.cells #[.int .i64 (p : Int)] 3)) := (Below.refl _ w3).alloc (Nat.le_refl _) _
                have HV4 := Lib.hid (own_far (own_below HV3.out hbd4) hgrow4.out (own_apart' HO3.out HV3.out (by decide)))
                have HQ4 := Lib.hid ((hgrow4.out.block w.heap.size (by simp; omega) (fun e => by have := (HO3.out.lt _ e.symm).1; omega)).trans ((hbd4.block w.heap.size (by omega)).trans HQ3.out))
                have HW4 := Lib.hid ((HW3.out.trans (hbd4.mono (by omega))).grown hgrow4.out (by simp; omega) (fun k' hk' => by have := (HO3.out.lt k' hk').1; omega))
                have hs4 : w.heap.size + 2 ≤ w4.heap.size := by have h1 := hgrow4.out.size; simp at h1; omega
                have HW5 := Lib.hid (HW4.out.setCell (p := ⟨w.heap.size + 1, 1, none⟩) (Nat.le_succ _) (.slice a4 (fs.length + 1) c4))
                have HR5 := Lib.hid (set_blk1 (v := .slice a4 (fs.length + 1) c4) HR4.out)
                have HQ5 := Lib.hid (show (w4.setCell ⟨w.heap.size + 1, 1, none⟩ (.slice a4 (fs.length + 1) c4)).heap[w.heap.size]? = some (.cells #[.slice none 0 0, .slice none 0 0, .int .i64 0, .int .i64 0] 32 (0, 0)) by
                  rw [Below.heap_setCell _ _ _ _ (by show w.heap.size ≠ w.heap.size + 1; omega)]; exact HQ4.out)
                have HV5 := Lib.hid (own_set (u := .slice a4 (fs.length + 1) c4) (B := w.heap.size + 1) (o := 1) HV4.out (by omega))
                have HO5 := Lib.hid (own_set (u := .slice a4 (fs.length + 1) c4) (B := w.heap.size + 1) (o := 1) HO4.out (by omega))
                have hs5 : w.heap.size + 2 ≤ (w4.setCell ⟨w.heap.size + 1, 1, none⟩ (.slice a4 (fs.length + 1) c4)).heap.size := by simpa [World.setCell] using hs4
                have HS5 := Lib.hid hs5
                have HOK2 : Hid (∀ f ∈ fs ++ [F], f.ok w) := fun f hf => by
                  rcases List.mem_append.1 hf with hf | hf
                  · exact HOK.out f hf
                  · rw [List.mem_singleton.1 hf]; exact HFOK.out
                have HRN2 : Hid (∀ gs r, Run zs n gs r → Run zs 0 (msF (fs ++ [F]) ++ gs) r) := fun gs r h => by
                  have := HRN.out _ _ (Run.ok (by rw [HL.out]; exact hlt) HOKA.out h)
                  simpa [msF, HFM.out] using this
                have hl1 : (fs ++ [F]).length = fs.length + 1 := by simp
                have HL1 := Lib.hid hl1
                clear hown4 hgrow4 hbd4 hs4 hs5 hl1 HR4 HQ4 HW4 HV4 HO4 HR3 HQ3 HV3 HO3 HW3
                go_wp2
                go_roundw
                case rel => exact ⟨n, fs ++ [F], offs ++ [(p : Int)], some ⟨g, 0, none⟩, cap, a4, c4, Nat.le_refl _, by first | rfl | (congr 1; omega), by rw [HL1.out]; omega, Lib.hid (.inr rfl), by rw [HL1.out]; exact HR5, HQ5, by rw [HL1.out]; exact HV5, by rw [HL1.out]; exact HO5, HOK2, HRN2, HW5.out, HS5.out⟩
                case measure => simp [intOf]; omega
            · have d7 : decide ((en : Int) < (n : Int)) = true := by simp; omega
              have hp4 : p % 4 = 0 := by rcases HP4.out with h | h <;> omega
              have hgg := gap_same (m := lenAt zs p) hp4
              have hgb := Pd.gap_bd (lenAt zs p : Int)
              go_wp2_with fail
              refine (Pd.refgap_any (lenAt zs p : Int) _ (by omega) (by omega)).mono ?_
              rintro e w1 ⟨rfl, rfl⟩
              by_cases hk : (en : Int) + Pd.gap (lenAt zs p) < n
              · have d8 : decide ((n : Int) ≤ (en : Int) + Pd.gap (lenAt zs p)) = false := by simp; omega
                obtain ⟨kn, hkn⟩ : ∃ kn : Nat, (en : Int) + Pd.gap (lenAt zs p : Int) = kn := ⟨((en : Int) + Pd.gap (lenAt zs p : Int)).toNat, by omega⟩
                have hkn1 : kn ≤ n := by omega
                have hkn2 : en ≤ kn := by omega
                have hkc : kn ≤ c := by omega
                have hce : ¬ c = en := by omega
                have HKN := Lib.hid hkn1
                have HQ4M : Hid (kn % 4 = 0) := gap_step (p := p) (m := lenAt zs p) (by rw [hgg, HEN.out]; exact hkn.symm)
                have hnx : Pd.nextB zs ((p : Int) + (lenAt zs p : Int)) = Pd.zeros ((zs.take kn).drop en) := nx_eq hen (by rw [hgg, HEN.out]; exact hkn) (by rw [HL.out]; omega) (by rw [HL.out]; omega)
                have hIz := HX.out.sub (lo := en) (hi := kn) hkn2 hkn1
                simp only [Option.map_some, Addr.add_lit] at hIz
                have HIZ := Lib.hid hIz
                clear hIz
                have d9 : decide ((n : Int) ≤ (kn : Int)) = false := by simp; omega
                go_wp2_with fail
                refine (Pd.refzero_any _ _ _ _ _ (HIZ.out.below HW.out)).mono ?_
                rintro e w1 ⟨rfl, rfl⟩
                cases hz : Pd.zeros ((zs.take kn).drop en) with
                | false =>
                  go_wp2
                  obtain ⟨Z, hZ, z0, z1, z2, z3, hZB, hZO⟩ := set4 (W := (wr.setCell ⟨w.heap.size + 1, 2, none⟩ (.int .i64 5)).setCell ⟨w.heap.size + 1, 3, none⟩ (.int .i64 (en : Int))) (B := w.heap.size) (x0 := .slice av fs.length cv) (x1 := .slice ao fs.length co) (x2 := .int .i64 5) (x3 := .int .i64 (en : Int)) (cell_ne (cell_ne q0 (.inl (by omega))) (.inl (by omega))) (cell_ne (cell_ne q1 (.inl (by omega))) (.inl (by omega))) (cell_ne (cell_ne q2 (.inl (by omega))) (.inl (by omega))) (cell_ne (cell_ne q3 (.inl (by omega))) (.inl (by omega)))
                  rw [hZ]
                  have hbz : Below w.heap.size w Z := ((HW.out.setCell (p := ⟨w.heap.size + 1, 2, none⟩) (Nat.le_succ _) _).setCell (p := ⟨w.heap.size + 1, 3, none⟩) (Nat.le_succ _) _).trans hZB
                  have hrow := hZO (by omega : w.heap.size < w.heap.size + 2) (own_set (own_set HV.out (by omega)) (by omega))
                  obtain ⟨a', c', hv, hfr⟩ := Frs.own hrow (fun f hf => (HOK.out f hf).below hbz)
                  simp only [Value.slice.injEq, true_and] at hv
                  obtain ⟨rfl, rfl⟩ := hv
                  have hld := load_result w.heap.size _ _ _ _ Z z0 z1 z2 z3
                  refine bodyPost_ret (v := .agg #[.slice av fs.length cv, .slice ao fs.length co, .int .i64 5, .int .i64 (en : Int)]) ?_ rfl ?_
                  · rw [results_cell1 rfl]
                    simp [asAddr, Result.andThen, hld]
                  · exact ⟨fs, some (5, (en : Int)), av, cv, ao, co, by simpa using HRN.out [] _ (Run.err (by rw [HL.out]; exact hlt) (.inr ⟨⟨by rw [HL.out]; omega, by omega, by rw [HL.out]; omega, .inl (by rw [hnx]; exact hz)⟩, rfl, hen.symm⟩)), by omega, hbz, hfr, .inr ⟨5, (en : Int), rfl, rfl⟩⟩
                | true =>
                  have hok : OkAt zs p kn := ⟨by rw [HL.out]; omega, by omega, .inr ⟨by rw [HL.out]; omega, by rw [hnx]; exact hz, by rw [hgg, HEN.out]; exact hkn.symm, by rw [HL.out]; omega⟩⟩
                  have HOKA := Lib.hid hok
                  clear hok
                  go_wp2
                  go_region_law (first | (refine step_append_lies _ rfl _ _ 29 rfl (w.heap.size + 2) 51 i0 (.agg #[.int .u16 0, .slice none 0 0]) 2 32 Tryd.underlying29 hi hz0 hz1 hz2 rfl (by decide) (.slice av fs.length cv) fs.length (cellsF fs) rfl (HV.out.alloc _) ⟨wr.heap.size, 0, none⟩ 1 1 F.cs rfl rfl (by rw [hFcs]; exact lies2 wr _ _ _) (one2 F) (by decide) (by unfold maxLen; omega) (by omega) (by simp; omega) _ rfl ?_; intro g cap w2 hown2 hgrow2 hat2 hlt2; have HGR := Lib.hid hgrow2; have HO2 := Lib.hid hown2; have HR2 := Lib.hid ((hgrow2.block (w.heap.size + 1) (by simp; omega) (fun e => by have := (HV.out.lt _ e.symm).1; omega)).trans (((Below.refl wr.heap.size wr).alloc (Nat.le_refl _) _).drew.block (w.heap.size + 1) (by omega) |>.trans HR.out)); have t0 := bb_cell HR2.out 0; have t1 := bb_cell HR2.out 1; have u0 := bb_frozen HR2.out 0; have u1 := bb_frozen HR2.out 1; clear hown2 hgrow2))
                  all_goals
                    obtain ⟨w3, hw3⟩ : ∃ w3, w2.setCell ⟨w.heap.size + 1, 0, none⟩ (.slice (some ⟨g, 0, none⟩) (fs.length + 1) cap) = w3 := ⟨_, rfl⟩
                    rw [hw3]
                    have hbd : Below wr.heap.size wr ((wr.alloc (.cells #[.int .u16 (typAt zs p), .slice (some A) (en - p4) (c - p4)] 51)).drew) := ((Below.refl wr.heap.size wr).alloc (Nat.le_refl _) _).drew
                    have HR3 := Lib.hid (show w3.heap[w.heap.size + 1]? = some (.cells #[.slice (some ⟨g, 0, none⟩) (fs.length + 1) cap, .slice ao fs.length co, .int .i64 0, .int .i64 0] 32 (0, 0)) by rw [← hw3]; exact set_blk0 HR2.out)
                    have HQ3 := Lib.hid (show w3.heap[w.heap.size]? = some (.cells #[.slice none 0 0, .slice none 0 0, .int .i64 0, .int .i64 0] 32 (0, 0)) by
                      rw [← hw3, Below.heap_setCell _ _ _ _ (by show w.heap.size ≠ w.heap.size + 1; omega)]
                      exact (HGR.out.block w.heap.size (by simp; omega) (fun e => by have := (HV.out.lt _ e.symm).1; omega)).trans ((hbd.block w.heap.size (by omega)).trans HQ.out))
                    have HV3 := Lib.hid (show w3.ownsRow (w.heap.size + 2) 51 2 (.slice (some ⟨g, 0, none⟩) (fs.length + 1) cap) (fs.length + 1) (cellsF (fs ++ [F])) by
                      rw [← hw3, cellsF_append]
                      have h := HO2.out
                      exact own_set (by simpa [cellsF] using h) (by omega))
                    have HO3 := Lib.hid (show w3.ownsRow (w.heap.size + 2) 3 1 (.slice ao fs.length co) fs.length (offs.map (Value.int .i64)) by
                      rw [← hw3]
                      exact own_set (own_far (own_below HO.out hbd) HGR.out (own_apart' HV.out HO.out (by decide))) (by omega))
                    have HW3 := Lib.hid (show Below w.heap.size w w3 by
                      rw [← hw3]
                      exact ((HW.out.trans (hbd.mono hsw0)).grown HGR.out (by simp; omega) (fun k' hk' => by have := (HV.out.lt k' hk').1; omega)).setCell (p := ⟨w.heap.size + 1, 0, none⟩) (Nat.le_succ _) _)
                    have hs3 : w.heap.size + 2 ≤ w3.heap.size := by
                      rw [← hw3]
                      have h1 := HGR.out.size
                      have h2 : (w2.setCell ⟨w.heap.size + 1, 0, none⟩ (.slice (some ⟨g, 0, none⟩) (fs.length + 1) cap)).heap.size = w2.heap.size := by simp [World.setCell]
                      rw [h2]
                      simp at h1
                      omega
                    clear hw3 hbd t0 t1 u0 u1 ra r0 r1 r2 r3 g0 g1 g2 g3 q0 q1 q2 q3 k0 k1 k2 k3 HR HQ HV HO HW
                    have t1 := bb_cell HR3.out 1
                    have u1 := bb_frozen HR3.out 1
                    simp only [List.getElem?_toArray, List.getElem?_cons_zero, List.getElem?_cons_succ] at t1
                    have HT1 := Lib.hid t1
                    have HU1 := Lib.hid u1
                    go_wp2_with (at_builtin; refine append_own_any _ rfl _ _ 30 rfl (w.heap.size + 2) 3 i1 (.int .i64 0) 8 Tryd.underlying30 hi1 hy0 hy1 hy2 rfl _ _ _ rfl (HO3.out.alloc _) _ _ _ [.int .i64 (p : Int)] rfl (Sl.at _ _ [.int .i64 (p : Int)] 3 1 rfl rfl (by omega)) (Wr.ints_oneCell .i64 [(p : Int)]) (by unfold maxLen; omega) (by omega) (by simp; omega) ?_; intro v4 w4 hown4 hgrow4; obtain ⟨a4, c4, hv4, _⟩ := Sl.own hown4.out; subst hv4; have HR4 := Lib.hid ((hgrow4.out.block (w.heap.size + 1) (by simp; omega) (fun e => by have := (HO3.out.lt _ e.symm).1; omega)).trans ((((Below.refl w3.heap.size w3).alloc (Nat.le_refl _) _).block (w.heap.size + 1) (by omega)).trans HR3.out)); have t4 := bb_cell HR4.out 1; have u4' := bb_frozen HR4.out 1; simp only [List.getElem?_toArray, List.getElem?_cons_zero, List.getElem?_cons_succ] at t4)
                    have HO4 := Lib.hid (show w4.ownsRow (w.heap.size + 2) 3 1 (.slice a4 (fs.length + 1) c4) (fs.length + 1) ((offs ++ [(p : Int)]).map (Value.int .i64)) by rw [List.map_append]; exact hown4.out)
                    have hbd4 : Below w3.heap.size w3 (w3.alloc (.cells #[.int .i64 (p : Int)] 3)) := (Below.refl _ w3).alloc (Nat.le_refl _) _
                    have HV4 := Lib.hid (own_far (own_below HV3.out hbd4) hgrow4.out (own_apart' HO3.out HV3.out (by decide)))
                    have HQ4 := Lib.hid ((hgrow4.out.block w.heap.size (by simp; omega) (fun e => by have := (HO3.out.lt _ e.symm).1; omega)).trans ((hbd4.block w.heap.size (by omega)).trans HQ3.out))
                    have HW4 := Lib.hid ((HW3.out.trans (hbd4.mono (by omega))).grown hgrow4.out (by simp; omega) (fun k' hk' => by have := (HO3.out.lt k' hk').1; omega))
                    have hs4 : w.heap.size + 2 ≤ w4.heap.size := by have h1 := hgrow4.out.size; simp at h1; omega
                    have HW5 := Lib.hid (HW4.out.setCell (p := ⟨w.heap.size + 1, 1, none⟩) (Nat.le_succ _) (.slice a4 (fs.length + 1) c4))
                    have HR5 := Lib.hid (set_blk1 (v := .slice a4 (fs.length + 1) c4) HR4.out)
                    have HQ5 := Lib.hid (show (w4.setCell ⟨w.heap.size + 1, 1, none⟩ (.slice a4 (fs.length + 1) c4)).heap[w.heap.size]? = some (.cells #[.slice none 0 0, .slice none 0 0, .int .i64 0, .int .i64 0] 32 (0, 0)) by
                      rw [Below.heap_setCell _ _ _ _ (by show w.heap.size ≠ w.heap.size + 1; omega)]; exact HQ4.out)
                    have HV5 := Lib.hid (own_set (u := .slice a4 (fs.length + 1) c4) (B := w.heap.size + 1) (o := 1) HV4.out (by omega))
                    have HO5 := Lib.hid (own_set (u := .slice a4 (fs.length + 1) c4) (B := w.heap.size + 1) (o := 1) HO4.out (by omega))
                    have hs5 : w.heap.size + 2 ≤ (w4.setCell ⟨w.heap.size + 1, 1, none⟩ (.slice a4 (fs.length + 1) c4)).heap.size := by simpa [World.setCell] using hs4
                    have HS5 := Lib.hid hs5
                    have HOK2 : Hid (∀ f ∈ fs ++ [F], f.ok w) := fun f hf => by
                      rcases List.mem_append.1 hf with hf | hf
                      · exact HOK.out f hf
                      · rw [List.mem_singleton.1 hf]; exact HFOK.out
                    have HRN2 : Hid (∀ gs r, Run zs kn gs r → Run zs 0 (msF (fs ++ [F]) ++ gs) r) := fun gs r h => by
                      have := HRN.out _ _ (Run.ok (by rw [HL.out]; exact hlt) HOKA.out h)
                      simpa [msF, HFM.out] using this
                    have hl1 : (fs ++ [F]).length = fs.length + 1 := by simp
                    have HL1 := Lib.hid hl1
                    clear hown4 hgrow4 hbd4 hs4 hs5 hl1 HR4 HQ4 HW4 HV4 HO4 HR3 HQ3 HV3 HO3 HW3
                    go_wp2
                    go_roundw
                    case rel => exact ⟨kn, fs ++ [F], offs ++ [(p : Int)], some ⟨g, 0, none⟩, cap, a4, c4, HKN.out, by first | rfl | (congr 1; omega), by rw [HL1.out]; omega, Lib.hid (.inl HQ4M.out), by rw [HL1.out]; exact HR5, HQ5, by rw [HL1.out]; exact HV5, by rw [HL1.out]; exact HO5, HOK2, HRN2, HW5.out, HS5.out⟩
                    case measure => simp [intOf]; omega
              · have d8 : decide ((n : Int) ≤ (en : Int) + Pd.gap (lenAt zs p)) = true := by simp; omega
                go_wp2
                obtain ⟨Z, hZ, z0, z1, z2, z3, hZB, hZO⟩ := set4 (W := (wr.setCell ⟨w.heap.size + 1, 2, none⟩ (.int .i64 5)).setCell ⟨w.heap.size + 1, 3, none⟩ (.int .i64 (en : Int))) (B := w.heap.size) (x0 := .slice av fs.length cv) (x1 := .slice ao fs.length co) (x2 := .int .i64 5) (x3 := .int .i64 (en : Int)) (cell_ne (cell_ne q0 (.inl (by omega))) (.inl (by omega))) (cell_ne (cell_ne q1 (.inl (by omega))) (.inl (by omega))) (cell_ne (cell_ne q2 (.inl (by omega))) (.inl (by omega))) (cell_ne (cell_ne q3 (.inl (by omega))) (.inl (by omega)))
                rw [hZ]
                have hbz : Below w.heap.size w Z := ((HW.out.setCell (p := ⟨w.heap.size + 1, 2, none⟩) (Nat.le_succ _) _).setCell (p := ⟨w.heap.size + 1, 3, none⟩) (Nat.le_succ _) _).trans hZB
                have hrow := hZO (by omega : w.heap.size < w.heap.size + 2) (own_set (own_set HV.out (by omega)) (by omega))
                obtain ⟨a', c', hv, hfr⟩ := Frs.own hrow (fun f hf => (HOK.out f hf).below hbz)
                simp only [Value.slice.injEq, true_and] at hv
                obtain ⟨rfl, rfl⟩ := hv
                have hld := load_result w.heap.size _ _ _ _ Z z0 z1 z2 z3
                refine bodyPost_ret (v := .agg #[.slice av fs.length cv, .slice ao fs.length co, .int .i64 5, .int .i64 (en : Int)]) ?_ rfl ?_
                · rw [results_cell1 rfl]
                  simp [asAddr, Result.andThen, hld]
                · exact ⟨fs, some (5, (en : Int)), av, cv, ao, co, by simpa using HRN.out [] _ (Run.err (by rw [HL.out]; exact hlt) (.inr ⟨⟨by rw [HL.out]; omega, by omega, by rw [HL.out]; omega, nx_far (by rw [hgg, HL.out]; omega)⟩, rfl, hen.symm⟩)), by omega, hbz, hfr, .inr ⟨5, (en : Int), rfl, rfl⟩⟩
      · have d4 : decide ((n : Int) < (p : Int) + 4) = true := by simp; omega
        go_wp2
        obtain ⟨Z, hZ, z0, z1, z2, z3, hZB, hZO⟩ := set4 (W := (wr.setCell ⟨w.heap.size + 1, 2, none⟩ (.int .i64 4)).setCell ⟨w.heap.size + 1, 3, none⟩ (.int .i64 (p : Int))) (B := w.heap.size) (x0 := .slice av fs.length cv) (x1 := .slice ao fs.length co) (x2 := .int .i64 4) (x3 := .int .i64 (p : Int)) (cell_ne (cell_ne q0 (.inl (by omega))) (.inl (by omega))) (cell_ne (cell_ne q1 (.inl (by omega))) (.inl (by omega))) (cell_ne (cell_ne q2 (.inl (by omega))) (.inl (by omega))) (cell_ne (cell_ne q3 (.inl (by omega))) (.inl (by omega)))
        rw [hZ]
        have hbz : Below w.heap.size w Z := ((HW.out.setCell (p := ⟨w.heap.size + 1, 2, none⟩) (Nat.le_succ _) _).setCell (p := ⟨w.heap.size + 1, 3, none⟩) (Nat.le_succ _) _).trans hZB
        have hrow := hZO (by omega : w.heap.size < w.heap.size + 2) (own_set (own_set HV.out (by omega)) (by omega))
        obtain ⟨a', c', hv, hfr⟩ := Frs.own hrow (fun f hf => (HOK.out f hf).below hbz)
        simp only [Value.slice.injEq, true_and] at hv
        obtain ⟨rfl, rfl⟩ := hv
        have hld := load_result w.heap.size _ _ _ _ Z z0 z1 z2 z3
        refine bodyPost_ret (v := .agg #[.slice av fs.length cv, .slice ao fs.length co, .int .i64 4, .int .i64 (p : Int)]) ?_ rfl ?_
        · rw [results_cell1 rfl]
          simp [asAddr, Result.andThen, hld]
        · exact ⟨fs, some (4, (p : Int)), av, cv, ao, co, by simpa using HRN.out [] _ (Run.err (by rw [HL.out]; exact hlt) (.inl ⟨.inl (by rw [HL.out]; omega), rfl, rfl⟩)), by omega, hbz, hfr, .inr ⟨4, (p : Int), rfl, rfl⟩⟩
    · have d0 : decide ((p : Int) < n) = false := by simp; omega
      go_wp2
      obtain ⟨Z, hZ, z0, z1, z2, z3, hZB, hZO⟩ := set4 (W := wr) (B := w.heap.size) (x0 := .slice av fs.length cv) (x1 := .slice ao fs.length co) (x2 := .int .i64 0) (x3 := .int .i64 0) q0 q1 q2 q3
      rw [hZ]
      have hbz : Below w.heap.size w Z := (HW.out).trans hZB
      have hrow := hZO (by omega : w.heap.size < w.heap.size + 2) HV.out
      obtain ⟨a', c', hv, hfr⟩ := Frs.own hrow (fun f hf => (HOK.out f hf).below hbz)
      simp only [Value.slice.injEq, true_and] at hv
      obtain ⟨rfl, rfl⟩ := hv
      have hld := load_result w.heap.size _ _ _ _ Z z0 z1 z2 z3
      refine bodyPost_ret (v := .agg #[.slice av fs.length cv, .slice ao fs.length co, .int .i64 0, .int .i64 0]) ?_ rfl ?_
      · rw [results_cell1 rfl]
        simp [asAddr, Result.andThen, hld]
      · exact ⟨fs, none, av, cv, ao, co, by simpa using HRN.out [] _ (Run.stop (by rw [HL.out]; omega)), by omega, hbz, hfr, .inl ⟨rfl, rfl⟩⟩
end Go.Proofs.YtpccbnlbonjklaaDoor

/- The contracts of kind.Types, kind.Fits and of the reference's functions. -/
import Derived.Test.YtoioindpmgkefaaDoorKind2
import Derived.Test.YtoioindpmgkefaaDoorRun
namespace Go.Proofs.YtoioindpmgkefaaDoor
open Go.RowKit

def KRow.cells (r : KRow) : List Value := [.int .u8 r.ty, .string ⟨r.name.toArray⟩, .int .u8 r.mask, .int .i64 r.least, .int .i64 r.most, .int .i64 r.unit, .int .i64 r.kids]
theorem fm7 : ∀ (l : List KRow) (i f : Nat), f < 7 → (l.flatMap KRow.cells)[i * 7 + f]? = (l[i]?).bind (fun r => r.cells[f]?)
  | [], i, f, _ => by simp
  | r :: l, 0, f, hf => by
    rw [List.flatMap_cons, Nat.zero_mul, Nat.zero_add, List.getElem?_append_left (by show f < 7; exact hf)]
    rfl
  | r :: l, i + 1, f, hf => by
    rw [List.flatMap_cons, List.getElem?_append_right (by show 7 ≤ _; omega), show (i + 1) * 7 + f - r.cells.length = i * 7 + f by show _ - 7 = _; omega, fm7 l i f hf]
    rfl
theorem kt_get {i : Nat} (hi : i < 23) : KT[i]? = some (kr i) := by
  have hl : i < KT.length := hi
  rw [List.getElem?_eq_getElem hl]
  simp [kr, List.getD, hl]
theorem row_new (w : World) (t : TypeId) (i : Nat) (hi : i < 23) : RowAt (w.alloc (.cells (KT.flatMap KRow.cells).toArray t)) w.heap.size (i * 7) i := by
  have e : ∀ f, f < 7 → (w.alloc (.cells (KT.flatMap KRow.cells).toArray t)).cell? ⟨w.heap.size, i * 7 + f, none⟩ = (kr i).cells[f]? := fun f hf => by
    rw [World.cell?_alloc_at _ _ _ _ rfl, List.getElem?_toArray, fm7 _ _ _ hf, kt_get hi]
    rfl
  exact ⟨e 0 (by decide), e 1 (by decide), e 2 (by decide), e 3 (by decide), e 4 (by decide), e 5 (by decide), e 6 (by decide)⟩

/-- ref.Table -/
theorem table_any (w : World) : Calls Tryd.prog 10 #[] w fun e w' => e = .returned (.slice (some ⟨w.heap.size, 0, none⟩) 23 23) ∧ (∀ i, i < 23 → RowAt w' w.heap.size (i * 7) i) ∧ Below w.heap.size w w' := by
  go_enter Tryd.func10, Tryd.ntmps10
  refine wp_seq ?_
  refine wp_region_lit ?_
  refine wpList_of_run _ _ _ _ rfl ?_
  refine wp_seq ?_
  refine wp_region_lit ?_
  refine wpList_of_run _ _ _ _ rfl ?_
  refine wp_seq ?_
  refine wp_region_lit ?_
  refine wpList_of_end 0 (.slice (some ⟨w.heap.size, 0, none⟩) 23 23) (w.alloc (.cells (KT.flatMap KRow.cells).toArray 28)) (by kernel_rfl) (by kernel_rfl) (by kernel_rfl) ?_
  intro a' h0 h1
  refine wp_ret ?_
  refine bodyPost_ret (results_tmp rfl _ _ _) h1 ?_
  rw [h0]
  exact ⟨rfl, row_new w 28, (Below.refl _ _).alloc (Nat.le_refl _) _⟩

/-- all types of the table -/
def tys : List Int := KT.map KRow.ty
theorem nth_tys {i : Nat} (hi : i < 23) : nth tys i = kty i := by
  have hl : i < tys.length := hi
  rw [nth_lt hl]
  simp [tys, kty, kr, List.getD, show i < KT.length from hi]
theorem tys_take {k : Nat} (hk : k < 23) : tys.take (k + 1) = tys.take k ++ [kty k] := by rw [take_succ_nth (by exact hk), nth_tys hk]
theorem info5 : (Tryd.prog.info? 5).map (fun i => (i.zero, i.size, i.bytes)) = some (some (.int .u8 0), 1, 1) := by kernel_rfl
theorem info47 : (Tryd.prog.info? 47).map (·.size) = some 161 := by kernel_rfl

/-- an element of the table that was loaded whole -/
theorem index_row {cs : Array Value} {k : Nat} (hk : k < 23) (_hs : cs.size = 161)
    (c0 : cs[k * 7]? = some (.int .u8 (kty k))) (c1 : cs[k * 7 + 1]? = some (.string (kname k))) (c2 : cs[k * 7 + 2]? = some (.int .u8 (kmask k))) (c3 : cs[k * 7 + 3]? = some (.int .i64 (kleast k)))
    (c4 : cs[k * 7 + 4]? = some (.int .i64 (kmost k))) (c5 : cs[k * 7 + 5]? = some (.int .i64 (kunit k))) (c6 : cs[k * 7 + 6]? = some (.int .i64 (kkids k))) (w : World) :
    (Instr.index 47 (.agg cs) (.int .i64 k)).run Tryd.prog w = .ok (.agg #[.int .u8 (kty k), .string (kname k), .int .u8 (kmask k), .int .i64 (kleast k), .int .i64 (kmost k), .int .i64 (kunit k), .int .i64 (kkids k)]) w := by
  have hsz : ∀ w, (Go.sizeOf 33).run Tryd.prog w = .ok 7 w := fun w => by kernel_rfl
  have hag : ∀ w, (isAgg 33).run Tryd.prog w = .ok true w := fun w => by kernel_rfl
  have hex : cs.extract (k * 7) (k * 7 + 7) = #[.int .u8 (kty k), .string (kname k), .int .u8 (kmask k), .int .i64 (kleast k), .int .i64 (kmost k), .int .i64 (kunit k), .int .i64 (kkids k)] := by
    apply Array.ext'
    apply List.ext_getElem?
    intro j
    simp only [Array.toList_extract, List.extract_eq_take_drop, List.getElem?_take, List.getElem?_drop, Array.getElem?_toList]
    match j with
    | 0 => simpa using c0
    | 1 => simpa using c1
    | 2 => simpa using c2
    | 3 => simpa using c3
    | 4 => simpa using c4
    | 5 => simpa using c5
    | 6 => simpa using c6
    | j + 7 => simp; omega
  simp [Instr.index, asIntOf, run_underlying Tryd.underlying47, Sem.run_bind, Result.andThen, hsz, hag, part, hex]
  intro h; omega

/-- kind.Types -/
theorem types_any (w : World) (hT : TabOk w) : Calls Tryd.prog 9 #[] w fun e w' => ∃ v, e = .returned v ∧ w'.ownsRow w.heap.size 5 1 v 23 (tys.map (Value.int .u8)) ∧ Below w.heap.size w w' := by
  obtain ⟨i0, hi, hz0, hz1, hz2⟩ := info_parts info5
  obtain ⟨hr, cs, tt, fr, hblk, hsz⟩ := hT
  have hce : ∀ j, w.cell? ⟨0, j, none⟩ = cs[j]? := fun j => cell_of_row w _ j cs tt fr hblk
  have hidx : ∀ k : Nat, k < 23 → ∀ w, (Instr.index 47 (.agg cs) (.int .i64 k)).run Tryd.prog w = .ok (.agg #[.int .u8 (kty k), .string (kname k), .int .u8 (kmask k), .int .i64 (kleast k), .int .i64 (kmost k), .int .i64 (kunit k), .int .i64 (kkids k)]) w := fun k hk => by
    obtain ⟨r0, r1, r2, r3, r4, r5, r6⟩ := hr k hk
    rw [hce] at r0 r1 r2 r3 r4 r5 r6
    exact index_row hk hsz r0 r1 r2 r3 r4 r5 r6
  have HI := Lib.hid hidx
  have HB := Lib.hid hblk
  have HS := Lib.hid hsz
  clear hr hce hidx hblk hsz
  go_enter Tryd.func9, Tryd.ntmps9
  go_wp2_with (refine wpList_load_row rfl 47 _ rfl 0 rfl tt cs fr _ HB.out Tryd.underlying47 rfl (by rw [HS.out]; exact info47) ?_)
  go_loopw [1, 3, 5] (fun v _ i wr => ∃ k : Nat, k ≤ 23 ∧ i = .int .i64 k ∧ wr.ownsRow w.heap.size 5 1 v k ((tys.take k).map (Value.int .u8)) ∧ Below w.heap.size w wr) (fun _ _ i _ => 23 - (intOf i).toNat)
  case atStart => exact ⟨0, by omega, rfl, World.ownsRow_nil _ _ _ _, Below.refl _ _⟩
  case round =>
    obtain ⟨k, hk, rfl, hown, hbw⟩ := hrel
    have HO := Lib.hid hown
    have HW := Lib.hid hbw
    have hsw : w.heap.size ≤ wr.heap.size := hbw.size
    clear hown hbw
    by_cases hlt : k < 23
    · have hx := HI.out k hlt
      have hst := Lib.hid (tys_take hlt)
      go_wp2_with (at_builtin; refine append_own_any _ rfl _ _ 23 rfl w.heap.size 5 i0 (.int .u8 0) 1 Tryd.underlying23 hi hz0 hz1 hz2 rfl _ _ _ rfl ((HO.out.alloc _).alloc _) _ _ _ [.int .u8 (kty k)] rfl (Sl.at _ _ [.int .u8 (kty k)] 5 1 (by simp) rfl (by omega)) (ints_oneCell .u8 [kty k]) (by unfold maxLen; omega) (by omega) (by simp; omega) ?_; intro v' w2 HO2 hgrow)
      have HO3 := HO2.out
      rw [show (tys.take k).map (Value.int .u8) ++ [.int .u8 (kty k)] = (tys.take (k + 1)).map (Value.int .u8) by rw [hst.out, List.map_append]; rfl] at HO3
      have HO4 := Lib.hid HO3
      have HW2 := Lib.hid (((HW.out.alloc hsw _).alloc (by simp; omega) _).grown hgrow.out (by simp; omega) (fun k' hk' => (HO.out.lt k' hk').1))
      clear HO2 HO3 hgrow HO HW
      go_wp2
      go_roundw
      case rel => exact ⟨k + 1, by omega, by go_num, HO4.out, HW2.out⟩
      case measure => simp [intOf]; omega
    · obtain rfl : k = 23 := by omega
      have he : Hid (tys.take 23 = tys) := List.take_of_length_le (by decide)
      rw [he.out] at HO
      go_wp2
      go_ret
      exact ⟨_, rfl, HO.out, HW.out⟩

end Go.Proofs.YtoioindpmgkefaaDoor

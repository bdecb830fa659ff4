/- The text of an error: a function of the error and of the table. -/
import Derived.Test.YtlaofaopajcfkaaDoorErr19
import Derived.Deep.RegionHeld3
namespace Go.Proofs.YtlaofaopajcfkaaDoor
set_option maxRecDepth 100000
set_option linter.unusedVariables false
open Go.RowKit Go.Extern.Stop Go.Stop Go.Extern

def EV.text (tb : Nat → Int) : EV → ByteArray
  | .code c => ⟨#[101, 114, 114, 111, 114, 32]⟩ ++ txt tb c
  | .flt c _ => ⟨#[101, 114, 114, 111, 114, 32]⟩ ++ txt tb c
  | .inn p e => p ++ ⟨#[58, 32]⟩ ++ e.text tb
def EV.errF : EV → Nat
  | .code _ => 47
  | .flt _ _ => 62
  | .inn _ _ => 64
theorem dec_small : ∀ i : Fin 100, (Lib.decDigits i.val).length ≤ 21 := by decide +kernel
theorem txt_size (tb : Nat → Int) (c : Int) : (txt tb c).size ≤ 21 := by
  unfold txt
  have hl := ndN_le tb c.natAbs
  have hf := fD_len (ndN tb c.natAbs) (ndN tb c.natAbs) c.natAbs (Nat.le_refl _)
  split
  · rename_i h
    have := dec_small ⟨c.toNat, by omega⟩
    simpa [ByteArray.size] using this
  · split
    · simp [ByteArray.size, hf]; omega
    · simp [ByteArray.size, hf]; omega
theorem codeText (tb : Nat → Int) (c : Int) (w : World) (h0 : -9223372036854775808 ≤ c) (h1 : c ≤ 9223372036854775807) (ht : TabP w tb) : Calls Tryd.prog 47 #[.int .i64 c] w fun e w' => e = .returned (.string (⟨#[101, 114, 114, 111, 114, 32]⟩ ++ txt tb c)) ∧ Below w.heap.size w w' := by
  have HI := Lib.hid (itoa_any tb c w h0 h1 ht)
  have hsz := txt_size tb c
  generalize txt tb c = T at *
  clear ht
  go_enter Tryd.func47, Tryd.ntmps47
  go_wp2_with fail
  refine HI.out.mono ?_
  rintro e w' ⟨rfl, hb⟩
  have HB := Lib.hid hb
  clear hb
  go_wp2
  go_ret
  exact ⟨rfl, HB.out⟩
theorem faultText (tb : Nat → Int) (c a : Int) (w : World) (h0 : -9223372036854775808 ≤ c) (h1 : c ≤ 9223372036854775807) (ht : TabP w tb) : Calls Tryd.prog 62 #[.agg #[.int .i64 c, .int .i64 a]] w fun e w' => e = .returned (.string (⟨#[101, 114, 114, 111, 114, 32]⟩ ++ txt tb c)) ∧ Below w.heap.size w w' := by
  have HB0 := Lib.hid ((Below.refl _ w).alloc (Nat.le_refl _) (.cells #[.int .i64 c, .int .i64 a] 48))
  have HT := Lib.hid (ht.below HB0.out)
  clear ht
  go_enter Tryd.func62, Tryd.ntmps62
  go_wp2_with fail
  refine (codeText tb c _ h0 h1 HT.out).mono ?_
  rintro e w' ⟨rfl, hb⟩
  have HB := Lib.hid (HB0.out.trans (hb.mono HB0.out.size))
  clear hb
  go_wp2
  go_ret
  exact ⟨rfl, HB.out⟩
set_option maxHeartbeats 4000000 in
theorem innText1 (tb : Nat → Int) (p T : ByteArray) (bd : Value) (w : World) (ht : TabP w tb) (hp : p.size ≤ 1000000) (hps : (p ++ (⟨#[58, 32]⟩ : ByteArray)).size ≤ 1000002) (hs : T.size ≤ 1000000) (ih : ∀ W, TabP W tb → Calls Tryd.prog 47 #[bd] W fun r w' => r = .returned (.string T) ∧ Below W.heap.size W w') :
    Calls Tryd.prog 64 #[.agg #[.string p, .iface 30 bd]] w fun r w' => r = .returned (.string (p ++ ⟨#[58, 32]⟩ ++ T)) ∧ Below w.heap.size w w' := by
  have HI := Lib.hid ih
  have HB0 := Lib.hid ((Below.refl _ w).alloc (Nat.le_refl _) (.cells #[.string p, .iface 30 bd] 54))
  have HT := Lib.hid (ht.below HB0.out)
  have hA1 : ∀ W, (Op.stringOp .add p ⟨#[58, 32]⟩).run Tryd.prog W = .ok (.string (p ++ ⟨#[58, 32]⟩)) W := fun W => run_string_add_sum (P := Tryd.prog) W p ⟨#[58, 32]⟩ (by show p.size + 2 ≤ _; omega)
  have hA2 : ∀ W, (Op.stringOp .add (p ++ ⟨#[58, 32]⟩) T).run Tryd.prog W = .ok (.string (p ++ ⟨#[58, 32]⟩ ++ T)) W := fun W => run_string_add_sum (P := Tryd.prog) W _ T (by omega)
  clear ht ih
  go_enter Tryd.func64, Tryd.ntmps64
  go_wp2
  go_region_held3 (fun w' => w'.cell? ⟨w.heap.size, 0, none⟩ = some (.string p) ∧ w'.cell? ⟨w.heap.size, 1, none⟩ = some (.iface 30 bd)) (first | exact ⟨q0, q1⟩ | exact ⟨by simp, by simp⟩ | go_keep)
    (first | (go_at_call 47; refine (HI.out _ (HT.out.below (Below.refl _ _).drew)).mono ?_; rintro r w2 ⟨rfl, hb2⟩; have q0 := (hb2.cell (p := ⟨w.heap.size, 0, none⟩) (by simp)).trans (show _ = some (Value.string p) by simp); have q1 := (hb2.cell (p := ⟨w.heap.size, 1, none⟩) (by simp)).trans (show _ = some (Value.iface 30 bd) by simp); have HB2 := Lib.hid (HB0.out.drew.trans (hb2.mono (by simp))); clear hb2))
  all_goals (try go_wp2)
  all_goals go_ret
  all_goals exact ⟨rfl, HB2.out⟩
set_option maxHeartbeats 4000000 in
theorem innText2 (tb : Nat → Int) (p T : ByteArray) (bd : Value) (w : World) (ht : TabP w tb) (hp : p.size ≤ 1000000) (hps : (p ++ (⟨#[58, 32]⟩ : ByteArray)).size ≤ 1000002) (hs : T.size ≤ 1000000) (ih : ∀ W, TabP W tb → Calls Tryd.prog 62 #[bd] W fun r w' => r = .returned (.string T) ∧ Below W.heap.size W w') :
    Calls Tryd.prog 64 #[.agg #[.string p, .iface 48 bd]] w fun r w' => r = .returned (.string (p ++ ⟨#[58, 32]⟩ ++ T)) ∧ Below w.heap.size w w' := by
  have HI := Lib.hid ih
  have HB0 := Lib.hid ((Below.refl _ w).alloc (Nat.le_refl _) (.cells #[.string p, .iface 48 bd] 54))
  have HT := Lib.hid (ht.below HB0.out)
  have hA1 : ∀ W, (Op.stringOp .add p ⟨#[58, 32]⟩).run Tryd.prog W = .ok (.string (p ++ ⟨#[58, 32]⟩)) W := fun W => run_string_add_sum (P := Tryd.prog) W p ⟨#[58, 32]⟩ (by show p.size + 2 ≤ _; omega)
  have hA2 : ∀ W, (Op.stringOp .add (p ++ ⟨#[58, 32]⟩) T).run Tryd.prog W = .ok (.string (p ++ ⟨#[58, 32]⟩ ++ T)) W := fun W => run_string_add_sum (P := Tryd.prog) W _ T (by omega)
  clear ht ih
  go_enter Tryd.func64, Tryd.ntmps64
  go_wp2
  go_region_held3 (fun w' => w'.cell? ⟨w.heap.size, 0, none⟩ = some (.string p) ∧ w'.cell? ⟨w.heap.size, 1, none⟩ = some (.iface 48 bd)) (first | exact ⟨q0, q1⟩ | exact ⟨by simp, by simp⟩ | go_keep)
    (first | (go_at_call 62; refine (HI.out _ (HT.out.below (Below.refl _ _).drew)).mono ?_; rintro r w2 ⟨rfl, hb2⟩; have q0 := (hb2.cell (p := ⟨w.heap.size, 0, none⟩) (by simp)).trans (show _ = some (Value.string p) by simp); have q1 := (hb2.cell (p := ⟨w.heap.size, 1, none⟩) (by simp)).trans (show _ = some (Value.iface 48 bd) by simp); have HB2 := Lib.hid (HB0.out.drew.trans (hb2.mono (by simp))); clear hb2))
  all_goals (try go_wp2)
  all_goals go_ret
  all_goals exact ⟨rfl, HB2.out⟩
set_option maxHeartbeats 4000000 in
theorem innText3 (tb : Nat → Int) (p T : ByteArray) (bd : Value) (w : World) (ht : TabP w tb) (hp : p.size ≤ 1000000) (hps : (p ++ (⟨#[58, 32]⟩ : ByteArray)).size ≤ 1000002) (hs : T.size ≤ 1000000) (ih : ∀ W, TabP W tb → Calls Tryd.prog 64 #[bd] W fun r w' => r = .returned (.string T) ∧ Below W.heap.size W w') :
    Calls Tryd.prog 64 #[.agg #[.string p, .iface 54 bd]] w fun r w' => r = .returned (.string (p ++ ⟨#[58, 32]⟩ ++ T)) ∧ Below w.heap.size w w' := by
  have HI := Lib.hid ih
  have HB0 := Lib.hid ((Below.refl _ w).alloc (Nat.le_refl _) (.cells #[.string p, .iface 54 bd] 54))
  have HT := Lib.hid (ht.below HB0.out)
  have hA1 : ∀ W, (Op.stringOp .add p ⟨#[58, 32]⟩).run Tryd.prog W = .ok (.string (p ++ ⟨#[58, 32]⟩)) W := fun W => run_string_add_sum (P := Tryd.prog) W p ⟨#[58, 32]⟩ (by show p.size + 2 ≤ _; omega)
  have hA2 : ∀ W, (Op.stringOp .add (p ++ ⟨#[58, 32]⟩) T).run Tryd.prog W = .ok (.string (p ++ ⟨#[58, 32]⟩ ++ T)) W := fun W => run_string_add_sum (P := Tryd.prog) W _ T (by omega)
  clear ht ih
  go_enter Tryd.func64, Tryd.ntmps64
  go_wp2
  go_region_held3 (fun w' => w'.cell? ⟨w.heap.size, 0, none⟩ = some (.string p) ∧ w'.cell? ⟨w.heap.size, 1, none⟩ = some (.iface 54 bd)) (first | exact ⟨q0, q1⟩ | exact ⟨by simp, by simp⟩ | go_keep)
    (first | (go_at_call 64; refine (HI.out _ (HT.out.below (Below.refl _ _).drew)).mono ?_; rintro r w2 ⟨rfl, hb2⟩; have q0 := (hb2.cell (p := ⟨w.heap.size, 0, none⟩) (by simp)).trans (show _ = some (Value.string p) by simp); have q1 := (hb2.cell (p := ⟨w.heap.size, 1, none⟩) (by simp)).trans (show _ = some (Value.iface 54 bd) by simp); have HB2 := Lib.hid (HB0.out.drew.trans (hb2.mono (by simp))); clear hb2))
  all_goals (try go_wp2)
  all_goals go_ret
  all_goals exact ⟨rfl, HB2.out⟩
theorem innText (tb : Nat → Int) (p : ByteArray) (e : EV) (w : World) (ht : TabP w tb) (hp : p.size ≤ 1000000) (hs : (e.text tb).size ≤ 1000000) (ih : ∀ W, TabP W tb → Calls Tryd.prog e.errF #[e.body] W fun r w' => r = .returned (.string (e.text tb)) ∧ Below W.heap.size W w') :
    Calls Tryd.prog 64 #[.agg #[.string p, .iface e.ty e.body]] w fun r w' => r = .returned (.string (p ++ ⟨#[58, 32]⟩ ++ e.text tb)) ∧ Below w.heap.size w w' := by
  have hps : (p ++ (⟨#[58, 32]⟩ : ByteArray)).size ≤ 1000002 := by
    rw [ByteArray.size_append]
    show p.size + 2 ≤ _
    omega
  cases e with
  | code c => exact innText1 tb p _ _ w ht hp hps hs ih
  | flt c a => exact innText2 tb p _ _ w ht hp hps hs ih
  | inn p2 e2 => exact innText3 tb p _ _ w ht hp hps hs ih

/-- THE TEXT OF AN ERROR -/
theorem text_any (tb : Nat → Int) : ∀ (e : EV) (w : World), TabP w tb → -9223372036854775808 ≤ e.cod → e.cod ≤ 9223372036854775807 → (e.text tb).size ≤ 1000000 → Calls Tryd.prog e.errF #[e.body] w fun r w' => r = .returned (.string (e.text tb)) ∧ Below w.heap.size w w'
  | .code c, w, ht, h0, h1, _ => codeText tb c w h0 h1 ht
  | .flt c a, w, ht, h0, h1, _ => faultText tb c a w h0 h1 ht
  | .inn p e, w, ht, h0, h1, hs => by
    have hsz : p.size + 2 + (e.text tb).size ≤ 1000000 := by
      have : (EV.text tb (.inn p e)).size = p.size + 2 + (e.text tb).size := by
        show (p ++ ⟨#[58, 32]⟩ ++ e.text tb).size = _
        rw [ByteArray.size_append, ByteArray.size_append]
        rfl
      omega
    exact innText tb p e w ht (by omega) (by omega) (fun W hW => text_any tb e W hW h0 h1 (by omega))
end Go.Proofs.YtlaofaopajcfkaaDoor

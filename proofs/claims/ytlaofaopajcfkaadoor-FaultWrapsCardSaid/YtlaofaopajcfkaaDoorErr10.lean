/- The fixed results of layer 2. -/
import Derived.Test.YtlaofaopajcfkaaDoorErr9
namespace Go.Proofs.YtlaofaopajcfkaaDoor
open Go.RowKit Go.Extern.Stop Go.Stop Go.Extern

theorem tr {w0 w w' : World} (h : Below w0.heap.size w0 w) (k : Below w.heap.size w w') : Below w0.heap.size w0 w' := h.trans (k.mono h.size)
set_option maxRecDepth 100000 in
set_option maxHeartbeats 4000000 in
theorem awake_any (w : World) (hg : TypOk w) (hn : NamOk w) : Calls Tryd.prog 7 #[] w fun e w' => e = .returned (.bool true) ∧ Below w.heap.size w w' := by
  have HG := Lib.hid hg
  have HN := Lib.hid hn
  clear hg hn
  go_enter Tryd.func7, Tryd.ntmps7
  go_wp2_with fail
  refine (new_any _ _ _).mono ?_
  rintro e w' ⟨rfl, rfl⟩
  go_wp2_with fail
  refine (in_any ⟨#[99, 104, 117, 110, 107]⟩ (EV.flt 7 7) _).mono ?_
  rintro e w' ⟨rfl, rfl⟩
  simp only [EV.ty, EV.body]
  go_wp2_with fail
  refine (shift_any (EV.inn ⟨#[99, 104, 117, 110, 107]⟩ (EV.flt 7 7)) 2 _ HG.out (by simp [EV.off]) (by simp [EV.off])).mono ?_
  rintro e w1 ⟨rfl, hb⟩
  simp only [EV.ty, EV.body, EV.off, EV.cod, Option.getD_some, Int.reduceAdd]
  have HB1 := Lib.hid hb
  clear hb
  go_wp2_with fail
  refine (at_any (EV.flt 7 9) _ (HG.out.below HB1.out)).mono ?_
  rintro e w2 ⟨rfl, hb⟩
  simp only [EV.off, Option.getD_some, Option.isSome_some]
  have HB2 := Lib.hid (tr HB1.out hb)
  clear hb HB1
  go_wp2_with fail
  refine (code_nil _).mono ?_
  rintro e w3 ⟨rfl, hb⟩
  have HB3 := Lib.hid (tr HB2.out hb)
  clear hb HB2
  go_wp2_with (go_at_call 64; refine (textInner _).mono ?_; rintro e w4 ⟨rfl, hb⟩; have HB4 := Lib.hid (tr HB3.out hb); clear hb HB3)
  go_wp2_with fail
  refine (in_nil _ _).mono ?_
  rintro e w' ⟨rfl, rfl⟩
  go_wp2_with fail
  refine (shift_nil 1 _).mono ?_
  rintro e w5 ⟨rfl, hb⟩
  have HB5 := Lib.hid (tr HB4.out hb)
  clear hb HB4
  go_wp2_with fail
  refine (name_any 10 _ (HN.out.below HB5.out)).mono ?_
  rintro e w' ⟨rfl, rfl⟩
  rw [show namZ 10 = ⟨#[112, 108, 97, 99, 101]⟩ by rfl]
  go_wp2
  go_ret
  exact ⟨rfl, HB5.out⟩
end Go.Proofs.YtlaofaopajcfkaaDoor

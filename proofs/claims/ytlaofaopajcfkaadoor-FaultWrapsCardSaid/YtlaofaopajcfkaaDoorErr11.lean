/- The walk of FaultNames. -/
import Derived.Test.YtlaofaopajcfkaaDoorErr10
namespace Go.Proofs.YtlaofaopajcfkaaDoor
open Go.RowKit

theorem walk_FaultNames (c : Int) (w : World) (hg : TypOk w) (hn : NamOk w) (h0 : -9223372036854775808 ≤ c) (h1 : c ≤ 9223372036854775807) :
    Calls Tryd.prog 5 #[.int .i64 c] w fun e w' => e = .returned (.bool true) ∧ Below w.heap.size w w' := by
  have HG := Lib.hid hg
  have HN := Lib.hid hn
  have H0 := Lib.hid h0
  have H1 := Lib.hid h1
  clear hg hn
  go_enter Tryd.func5, Tryd.ntmps5
  go_wp2_with fail
  refine (awake_any _ HG.out HN.out).mono ?_
  rintro e w1 ⟨rfl, hb⟩
  have HB1 := Lib.hid hb
  clear hb
  go_wp2_with fail
  refine (name_any c _ (HN.out.below HB1.out)).mono ?_
  rintro e w' ⟨rfl, rfl⟩
  go_wp2_with fail
  refine (refname_any c _ H0.out H1.out).mono ?_
  rintro e w2 ⟨rfl, hb⟩
  have HB2 := Lib.hid (tr HB1.out hb)
  clear hb
  go_wp2
  go_ret
  exact ⟨by simp, HB2.out⟩
end Go.Proofs.YtlaofaopajcfkaaDoor

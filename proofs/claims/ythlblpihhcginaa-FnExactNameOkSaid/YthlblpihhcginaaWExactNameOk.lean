/- FnExactNameOk: the walk of the law out of the contracts of what it calls. -/
import Derived.Test.YthlblpihhcginaaName
namespace Go.Proofs.Ythlblpihhcginaa
open Go.RowKit
set_option linter.unusedVariables false in
set_option maxHeartbeats 1600000 in
theorem walk_FnExactNameOk (s0 : ByteArray) (w : World) (g0 : s0.size ≤ maxLen) :
    Calls Try.prog 4 #[.string s0] w fun e w' => e = .returned (.bool true) ∧ Below w.heap.size w w' := by
  unfold maxLen at *
  by_cases hn0 : s0.size ≤ 1048576
  · go_enter Try.func4, Try.ntmps4
    go_wp2_with fail
    refine (nameOk_spec s0 _ g0).mono ?_
    rintro e w1 ⟨rfl, hb1⟩
    have BB1 := hb1
    have sz1 := hb1.size
    go_wp2_with fail
    refine (nameOk_impl s0 _ g0).mono ?_
    rintro e w2 ⟨rfl, hb2⟩
    have BB2 := BB1.trans (hb2.mono BB1.size)
    have sz2 := hb2.size
    go_wp2
    go_ret
    exact ⟨rfl, BB2⟩
  · go_enter Try.func4, Try.ntmps4
    go_wp2
    go_ret
    exact ⟨rfl, Below.refl _ _⟩
end Go.Proofs.Ythlblpihhcginaa

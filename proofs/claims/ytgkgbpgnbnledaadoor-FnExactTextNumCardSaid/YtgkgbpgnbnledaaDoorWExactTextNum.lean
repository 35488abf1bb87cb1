/- FnExactTextNum: the walk of the law. -/
import Derived.Test.YtgkgbpgnbnledaaDoorTextN
namespace Go.Proofs.YtgkgbpgnbnledaaDoor
open Go.RowKit
set_option maxHeartbeats 800000 in
theorem walk_FnExactTextNum (s : ByteArray) (w : World) (hs : s.size ≤ maxLen) (hp : Pow Tryd.prog w) (he : Errs Tryd.prog w) :
    Calls Tryd.prog 6 #[.string s] w fun e w' => e = .returned (.bool true) ∧ Below w.heap.size w w' := by
  have hs' := hs
  unfold maxLen at hs'
  by_cases h : s.size ≤ 1048576
  · go_enter Tryd.func6, Tryd.ntmps6
    go_wp2_with fail
    refine (textNum_spec s _ hs).mono ?_
    rintro e w1 ⟨rfl, hb1⟩
    go_wp2_with fail
    refine (textNum_impl s h _ (hp.later hb1 (Nat.le_refl _)) (he.later hb1 (Nat.le_refl _))).mono ?_
    rintro e w2 ⟨rfl, hb2⟩
    have BB := hb1.trans (hb2.mono hb1.size)
    go_wp2
    go_ret
    exact ⟨rfl, BB⟩
  · go_enter Tryd.func6, Tryd.ntmps6
    go_wp2
    go_ret
    exact ⟨rfl, Below.refl _ _⟩
end Go.Proofs.YtgkgbpgnbnledaaDoor

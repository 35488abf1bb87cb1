/- FnExactNumText: the walk of the law. -/
import Derived.Test.YtgkgbpgnbnledaaDoorNumT
namespace Go.Proofs.YtgkgbpgnbnledaaDoor
open Go.RowKit
set_option maxHeartbeats 800000 in
theorem walk_FnExactNumText (n : Int) (hn : In64 n) (w : World) (ht : Pow Tryd.prog w) :
    Calls Tryd.prog 3 #[.int .i64 n] w fun e w' => e = .returned (.bool true) ∧ Below w.heap.size w w' := by
  have hse := bs_eq (mkB (numL n)) (mkB (numL n))
  rw [decide_eq_true rfl] at hse
  go_enter Tryd.func3, Tryd.ntmps3
  go_wp2_with fail
  refine (numText_spec n.toNat n (Nat.le_refl _) hn _).mono ?_
  rintro e w1 ⟨rfl, hb1⟩
  go_wp2_with fail
  refine (numText_impl n hn _ (ht.later hb1 (Nat.le_refl _))).mono ?_
  rintro e w2 ⟨rfl, hb2⟩
  have BB := hb1.trans (hb2.mono hb1.size)
  go_wp2
  go_ret
  exact ⟨rfl, BB⟩
end Go.Proofs.YtgkgbpgnbnledaaDoor

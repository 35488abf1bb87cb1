/- Less of the program and of the reference, toRec: their contracts. -/
import Derived.Test.YthffmjeodoinlaaDoorRows
import Derived.Test.YthffmjeodoinlaaDoorLib
import Derived.Test.YthffmjeodoinlaaDoorKeep
namespace Go.Proofs.YthffmjeodoinlaaDoor
open Go.RowKit
def lessB (a b c x y z : Int) : Bool := if a ≠ x then decide (a < x) else if b ≠ y then decide (b < y) else decide (c < z)
set_option maxHeartbeats 400000 in
theorem less_impl (a b c x y z : Int) (w : World) :
    Calls Tryd.prog 34 #[.agg #[.int .i64 a, .int .i64 b, .int .i64 c], .agg #[.int .i64 x, .int .i64 y, .int .i64 z]] w fun e w' => e = .returned (.bool (lessB a b c x y z)) ∧ Below w.heap.size w w' := by
  have hfin : lessB a b c x y z = if a ≠ x then decide (a < x) else if b ≠ y then decide (b < y) else decide (c < z) := rfl
  have H := Lib.hid hfin; clear hfin
  go_enter Tryd.func34, Tryd.ntmps34
  go_wp2
  all_goals
    go_ret
    refine ⟨?_, (((Below.refl _ _).alloc (Nat.le_refl _) _).alloc (by simp) _)⟩
    rw [H.out]
    simp_all
end Go.Proofs.YthffmjeodoinlaaDoor

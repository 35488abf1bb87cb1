/- Less of the program and of the reference, toRec: their contracts. -/
import Derived.Test.YtifaekkbdmcehaaRows
import Derived.Test.YtifaekkbdmcehaaLib
import Derived.Test.YtifaekkbdmcehaaKeep
namespace Go.Proofs.Ytifaekkbdmcehaa
open Go.RowKit
def lessB (a b c x y z : Int) : Bool := if a ≠ x then decide (a < x) else if b ≠ y then decide (b < y) else decide (c < z)
set_option maxHeartbeats 400000 in
theorem less_impl (a b c x y z : Int) (w : World) :
    Calls Try.prog 60 #[.agg #[.int .i64 a, .int .i64 b, .int .i64 c], .agg #[.int .i64 x, .int .i64 y, .int .i64 z]] w fun e w' => e = .returned (.bool (lessB a b c x y z)) ∧ Below w.heap.size w w' := by
  have hfin : lessB a b c x y z = if a ≠ x then decide (a < x) else if b ≠ y then decide (b < y) else decide (c < z) := rfl
  have H := Lib.hid hfin; clear hfin
  go_enter Try.func60, Try.ntmps60
  go_wp2
  all_goals
    go_ret
    refine ⟨?_, (((Below.refl _ _).alloc (Nat.le_refl _) _).alloc (by simp) _)⟩
    rw [H.out]
    simp_all
set_option maxHeartbeats 400000 in
theorem less_spec (a b c x y z : Int) (w : World) :
    Calls Try.prog 58 #[.agg #[.int .i64 a, .int .i64 b, .int .i64 c], .agg #[.int .i64 x, .int .i64 y, .int .i64 z]] w fun e w' => e = .returned (.bool (lessB a b c x y z)) ∧ Below w.heap.size w w' := by
  have hfin : lessB a b c x y z = if a ≠ x then decide (a < x) else if b ≠ y then decide (b < y) else decide (c < z) := rfl
  have H := Lib.hid hfin; clear hfin
  go_enter Try.func58, Try.ntmps58
  go_wp2
  all_goals
    go_ret
    refine ⟨?_, (((Below.refl _ _).alloc (Nat.le_refl _) _).alloc (by simp) _)⟩
    rw [H.out]
    simp_all
set_option maxHeartbeats 400000 in
theorem toRecL_any (a b c : Int) (w : World) :
    Calls Try.prog 59 #[.agg #[.int .i64 a, .int .i64 b, .int .i64 c]] w fun e w' => e = .returned (.agg #[.int .i64 a, .int .i64 b, .int .i64 c]) ∧ Below w.heap.size w w' := by
  go_enter Try.func59, Try.ntmps59
  go_wp2
  refine bodyPost_ret (v := .agg #[.int .i64 a, .int .i64 b, .int .i64 c]) (by simp [results, Try.results59, go_sem]) rfl ⟨rfl, ?_⟩
  exact (((Below.refl _ _).alloc (Nat.le_refl _) _).alloc (by simp) _).alloc (by simp; omega) _
end Go.Proofs.Ytifaekkbdmcehaa

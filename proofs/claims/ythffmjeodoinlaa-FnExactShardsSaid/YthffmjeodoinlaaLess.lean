/- Less of the program and of the reference, toRec: their contracts. -/
import Derived.Test.YthffmjeodoinlaaRows
import Derived.Test.YthffmjeodoinlaaLib
import Derived.Test.YthffmjeodoinlaaKeep
namespace Go.Proofs.Ythffmjeodoinlaa
open Go.RowKit
def lessB (a b c x y z : Int) : Bool := if a ≠ x then decide (a < x) else if b ≠ y then decide (b < y) else decide (c < z)
set_option maxHeartbeats 400000 in
theorem less_impl (a b c x y z : Int) (w : World) :
    Calls Try.prog 41 #[.agg #[.int .i64 a, .int .i64 b, .int .i64 c], .agg #[.int .i64 x, .int .i64 y, .int .i64 z]] w fun e w' => e = .returned (.bool (lessB a b c x y z)) ∧ Below w.heap.size w w' := by
  have hfin : lessB a b c x y z = if a ≠ x then decide (a < x) else if b ≠ y then decide (b < y) else decide (c < z) := rfl
  have H := Lib.hid hfin; clear hfin
  go_enter Try.func41, Try.ntmps41
  go_wp2
  all_goals
    go_ret
    refine ⟨?_, (((Below.refl _ _).alloc (Nat.le_refl _) _).alloc (by simp) _)⟩
    rw [H.out]
    simp_all
set_option maxHeartbeats 400000 in
theorem less_spec (a b c x y z : Int) (w : World) :
    Calls Try.prog 37 #[.agg #[.int .i64 a, .int .i64 b, .int .i64 c], .agg #[.int .i64 x, .int .i64 y, .int .i64 z]] w fun e w' => e = .returned (.bool (lessB a b c x y z)) ∧ Below w.heap.size w w' := by
  have hfin : lessB a b c x y z = if a ≠ x then decide (a < x) else if b ≠ y then decide (b < y) else decide (c < z) := rfl
  have H := Lib.hid hfin; clear hfin
  go_enter Try.func37, Try.ntmps37
  go_wp2
  all_goals
    go_ret
    refine ⟨?_, (((Below.refl _ _).alloc (Nat.le_refl _) _).alloc (by simp) _)⟩
    rw [H.out]
    simp_all
set_option maxHeartbeats 400000 in
theorem toRecL_any (a b c : Int) (w : World) :
    Calls Try.prog 38 #[.agg #[.int .i64 a, .int .i64 b, .int .i64 c]] w fun e w' => e = .returned (.agg #[.int .i64 a, .int .i64 b, .int .i64 c]) ∧ Below w.heap.size w w' := by
  go_enter Try.func38, Try.ntmps38
  go_wp2
  refine bodyPost_ret (v := .agg #[.int .i64 a, .int .i64 b, .int .i64 c]) (by simp [results, Try.results38, go_sem]) rfl ⟨rfl, ?_⟩
  exact (((Below.refl _ _).alloc (Nat.le_refl _) _).alloc (by simp) _).alloc (by simp; omega) _
end Go.Proofs.Ythffmjeodoinlaa

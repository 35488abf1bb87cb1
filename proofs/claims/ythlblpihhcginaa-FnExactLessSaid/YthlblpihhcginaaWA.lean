/- FnExactConstants, FnExactLess: the walks. -/
import Derived.Test.YthlblpihhcginaaLess
import Derived.Test.YthlblpihhcginaaTyRec
namespace Go.Proofs.Ythlblpihhcginaa
open Go.RowKit
theorem walk_FnExactConstants (w : World) :
    Calls Try.prog 3 #[] w fun e w' => e = .returned (.bool true) ∧ Below w.heap.size w w' := by
  go_enter Try.func3, Try.ntmps3
  go_wp2
  go_ret
  exact ⟨rfl, Below.refl _ _⟩
set_option maxHeartbeats 400000 in
theorem walk_FnExactLess (y0 : RecR) (y1 : RecR) (w : World) (g0 : goodRec w y0) (g1 : goodRec w y1) :
    Calls Try.prog 5 #[.agg #[.int .i64 y0.a, .int .i64 y0.b, .int .i64 y0.c], .agg #[.int .i64 y1.a, .int .i64 y1.b, .int .i64 y1.c]] w fun e w' => e = .returned (.bool true) ∧ Below w.heap.size w w' := by
  obtain ⟨a, b, c⟩ := y0
  obtain ⟨x, y, z⟩ := y1
  clear g0 g1
  go_enter Try.func5, Try.ntmps5
  go_wp2_with fail
  go_region_held3 (fun w' => w'.cell? ⟨w.heap.size, 0, none⟩ = some (.int .i64 a) ∧ w'.cell? ⟨w.heap.size, 1, none⟩ = some (.int .i64 b) ∧ w'.cell? ⟨w.heap.size, 2, none⟩ = some (.int .i64 c) ∧ w'.cell? ⟨w.heap.size+1, 0, none⟩ = some (.int .i64 x) ∧ w'.cell? ⟨w.heap.size+1, 1, none⟩ = some (.int .i64 y) ∧ w'.cell? ⟨w.heap.size+1, 2, none⟩ = some (.int .i64 z) ∧ Below w.heap.size w w') (first | exact keepd6 (by assumption) | exact keep6 (by assumption) (Nat.le_refl _) (by assumption) | (simp [go_sem, World.cell?_alloc_past]; exact (((Below.refl _ _).alloc (Nat.le_refl _) _).alloc (by simp) _).drew)) (first | (go_at_call 18; refine (toRec_any _ _ _ _).mono ?_; rintro e w' ⟨rfl, hb⟩) | (go_at_call 17; refine (less_spec _ _ _ _ _ _ _).mono ?_; rintro e w' ⟨rfl, hb⟩))
  go_wp2_with fail
  go_region_held3 (fun w' => w'.cell? ⟨w.heap.size, 0, none⟩ = some (.int .i64 a) ∧ w'.cell? ⟨w.heap.size, 1, none⟩ = some (.int .i64 b) ∧ w'.cell? ⟨w.heap.size, 2, none⟩ = some (.int .i64 c) ∧ w'.cell? ⟨w.heap.size+1, 0, none⟩ = some (.int .i64 x) ∧ w'.cell? ⟨w.heap.size+1, 1, none⟩ = some (.int .i64 y) ∧ w'.cell? ⟨w.heap.size+1, 2, none⟩ = some (.int .i64 z) ∧ Below w.heap.size w w') (first | exact keepd6 (by assumption) | exact keep6 (by assumption) (Nat.le_refl _) (by assumption) | (simp [go_sem, World.cell?_alloc_past]; exact (((Below.refl _ _).alloc (Nat.le_refl _) _).alloc (by simp) _).drew)) (first | (go_at_call 18; refine (toRec_any _ _ _ _).mono ?_; rintro e w' ⟨rfl, hb⟩) | (go_at_call 19; refine (less_impl _ _ _ _ _ _ _).mono ?_; rintro e w' ⟨rfl, hb⟩))
  go_wp2
  go_ret
  exact ⟨rfl, tail6 (by assumption)⟩
end Go.Proofs.Ythlblpihhcginaa

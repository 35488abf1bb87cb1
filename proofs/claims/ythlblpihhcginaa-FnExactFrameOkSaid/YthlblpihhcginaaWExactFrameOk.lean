/- FnExactFrameOk: the walk of the law out of the contracts of what it calls. -/
import Derived.Test.YthlblpihhcginaaFrameOk
namespace Go.Proofs.Ythlblpihhcginaa
open Go.RowKit
set_option linter.unusedVariables false in
set_option maxHeartbeats 1600000 in
theorem walk_FnExactFrameOk (y0 : FrameR) (w : World) (g0 : goodFrame w y0) :
    Calls Try.prog 11 #[.agg #[.int .i64 y0.kind, .slice y0.dataA y0.dataN y0.dataC]] w fun e w' => e = .returned (.bool true) ∧ Below w.heap.size w w' := by
  have hb0 := (Below.refl w.heap.size w).alloc (Nat.le_refl _) (.cells #[.int .i64 y0.kind, .slice y0.dataA y0.dataN y0.dataC] 47)
  by_cases hn : y0.dataN ≤ 1048576
  · have HL := Lib.hid (leftB_yes (left := 1048576) (n := y0.dataN) (by omega))
    go_enter Try.func11, Try.ntmps11
    go_wp2_with fail
    refine (szFrame_any y0 _ _ (goodFrame_below g0 hb0 (Nat.le_refl _)) (by omega) (by omega)).mono ?_
    rintro e w1 ⟨rfl, hb1⟩
    rw [HL.out]
    have BB1 := hb0.trans (hb1.mono (by simp))
    have hz1 : w.heap.size + 1 ≤ w1.heap.size := by have := hb1.size; simpa using this
    obtain ⟨hc1, hf1⟩ := bcell hb1
    go_wp2_with fail
    refine (toFrame_any y0 _ (goodFrame_below g0 BB1 (Nat.le_refl _)) hn).mono ?_
    rintro e w2 ⟨q2, rfl, ho2, hb2⟩
    have BB2 := BB1.trans (hb2.mono BB1.size)
    have hz2 := hb2.size
    obtain ⟨hc2, hf2⟩ := bcell hb2
    go_wp2_with fail
    refine (frameOk_spec _ _ _ _ _).mono ?_
    rintro e w3 ⟨rfl, hb3⟩
    have BB3 := BB2.trans (hb3.mono BB2.size)
    have hz3 := hb3.size
    obtain ⟨hc3, hf3⟩ := bcell hb3
    have c0 : w3.cell? ⟨w.heap.size, 0, none⟩ = some (.int .i64 y0.kind) := by
      rw [hc3 _ _ (by omega), hc2 _ _ (by omega), hc1 _ _ (by simp)]; simp [go_sem]
    have c1 : w3.cell? ⟨w.heap.size, 1, none⟩ = some (.slice y0.dataA y0.dataN y0.dataC) := by
      rw [hc3 _ _ (by omega), hc2 _ _ (by omega), hc1 _ _ (by simp)]; simp [go_sem]
    clear hc1 hc2 hc3 hf1 hf2 hf3
    go_wp2_with fail
    refine (toFrame_any y0 _ (goodFrame_below g0 BB3 (Nat.le_refl _)) hn).mono ?_
    rintro e w4 ⟨q4, rfl, ho4, hb4⟩
    have BB4 := BB3.trans (hb4.mono BB3.size)
    have hz4 := hb4.size
    have c0' := cell_later hb4 c0
    have c1' := cell_later hb4 c1
    clear c0 c1
    go_wp2_with fail
    have hb4a := (Below.refl w4.heap.size w4).alloc (Nat.le_refl _) (.cells #[.int .i64 y0.kind, .slice (some ⟨q4, 0, none⟩) y0.dataN y0.dataN] 50)
    have ho4a := ho4.below hb4a
    refine (frameOk_impl _ _ _ _ _).mono ?_
    rintro e w5 ⟨rfl, hb5⟩
    have BB5 := (BB4.trans (hb4a.mono BB4.size)).trans (hb5.mono (Nat.le_trans BB4.size hb4a.size))
    have ho5 := ho4a.below hb5
    obtain ⟨hc5, hf5⟩ := bcell hb5
    have hz5 : w4.heap.size + 1 ≤ w5.heap.size := by have := hb5.size; simpa using this
    have d0 : w5.cell? ⟨w4.heap.size, 0, none⟩ = some (.int .i64 y0.kind) := by rw [hc5 _ _ (by simp)]; simp [go_sem]
    have d1 : w5.cell? ⟨w4.heap.size, 1, none⟩ = some (.slice (some ⟨q4, 0, none⟩) y0.dataN y0.dataN) := by rw [hc5 _ _ (by simp)]; simp [go_sem]
    have c0 := cell_later hb5 (cell_later hb4a c0')
    have c1 := cell_later hb5 (cell_later hb4a c1')
    clear hc5 hf5 c0' c1'
    go_wp2_with fail
    go_region_held3 (fun w' => w'.cell? ⟨w.heap.size, 0, none⟩ = some (.int .i64 y0.kind) ∧ w'.cell? ⟨w.heap.size, 1, none⟩ = some (.slice y0.dataA y0.dataN y0.dataC) ∧ w'.cell? ⟨w4.heap.size, 0, none⟩ = some (.int .i64 y0.kind) ∧ w'.cell? ⟨w4.heap.size, 1, none⟩ = some (.slice (some ⟨q4, 0, none⟩) y0.dataN y0.dataN) ∧ Below w5.heap.size w5 w') (first | exact keepd4 (by assumption) | exact keep4 (by assumption) (Nat.le_refl _) (by assumption) | exact ⟨c0, c1, d0, d1, (Below.refl _ _).drew⟩) (first | (go_at_call 36; refine (toFrame_any y0 _ (goodFrame_below g0 (BB5.trans ((tail4 (by assumption) : Below w5.heap.size w5 _).mono BB5.size)) (Nat.le_refl _)) hn).mono ?_; rintro e w6 ⟨q6, rfl, ho6, hb6⟩) | (go_at_call 38; refine (eqFrame_any _ _ _ _ _ _ _ _ _ _ _ (ho5.below (tail4 (by assumption) : Below w5.heap.size w5 _)).rd ho6.rd).mono ?_; rintro e w7 ⟨rfl, hb7⟩))
    go_wp2
    go_ret
    exact ⟨rfl, BB5.trans ((tail4 (by assumption) : Below w5.heap.size w5 _).mono BB5.size)⟩
  · have HL := Lib.hid (leftB_no (left := 1048576) (n := y0.dataN) (by omega))
    go_enter Try.func11, Try.ntmps11
    go_wp2_with fail
    refine (szFrame_any y0 _ _ (goodFrame_below g0 hb0 (Nat.le_refl _)) (by omega) (by omega)).mono ?_
    rintro e w1 ⟨rfl, hb1⟩
    rw [HL.out]
    go_wp2
    go_ret
    exact ⟨rfl, hb0.trans (hb1.mono (by simp))⟩
end Go.Proofs.Ythlblpihhcginaa

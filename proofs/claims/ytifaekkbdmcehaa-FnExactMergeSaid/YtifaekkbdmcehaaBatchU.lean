/- Batch in the form that the laws' walks use: szX, toX, eqX, markX, heldX of the statements over a Batch of the call's own. -/
import Derived.Test.YtifaekkbdmcehaaTyBatch
import Derived.Test.YtifaekkbdmcehaaRecS
import Derived.Test.YtifaekkbdmcehaaRowS
namespace Go.Proofs.Ytifaekkbdmcehaa
open Go.RowKit
def datBatch (y : BatchR) : List RecR := y.recs
def okBatch (y : BatchR) : Prop := ∀ w0 : World, ∀ z ∈ y.recs, goodRec w0 z
structure OwnBatch (lo hi : Nat) (w : World) (y : BatchR) : Prop where
  row : OwnS encRec 3 84 lo hi w y.recsA y.recsN y.recsC y.recs
  top : hi ≤ w.heap.size
theorem OwnBatch.below {lo hi : Nat} {w w' : World} {y : BatchR} (h : OwnBatch lo hi w y) (hb : Below w.heap.size w w') : OwnBatch lo hi w' y := ⟨h.row.below hb, Nat.le_trans h.top hb.size⟩
theorem OwnBatch.win {lo hi lo' hi' : Nat} {w w' : World} {y : BatchR} (h : OwnBatch lo hi w y) (hw : Win lo' hi' w w') (hd : hi' ≤ lo ∨ hi ≤ lo') : OwnBatch lo hi w' y := ⟨h.row.win hw hd, Nat.le_trans h.top hw.size⟩
theorem OwnBatch.lo_le {lo hi lo' : Nat} {w : World} {y : BatchR} (h : OwnBatch lo hi w y) (hl : lo' ≤ lo) : OwnBatch lo' hi w y := ⟨h.row.lo_le hl, h.top⟩
theorem OwnBatch.good {lo hi : Nat} {w : World} {y : BatchR} (h : OwnBatch lo hi w y) (g : okBatch y) : goodBatch w y := ⟨h.row.rd lenRec, g w⟩
theorem goodBatch_ok {w : World} {y : BatchR} (g : goodBatch w y) : okBatch y := fun _ => g.2
theorem okBatch_dat {y y' : BatchR} (g : okBatch y) (h : datBatch y' = datBatch y) : okBatch y' := by
  unfold datBatch at h
  unfold okBatch
  rw [h]
  exact g
/-- How much of the budget it takes. -/
def bulkBatch (y : BatchR) : Nat := y.recsN
set_option maxHeartbeats 800000 in
theorem szBatch_k (y : BatchR) (left : Int) (w : World) (gr : Rd encRec 3 w y.recsA y.recsN y.recsC y.recs) (h1 : 0 ≤ left) (h2 : left ≤ 1048576) :
    Calls Try.prog 72 #[.agg #[.slice y.recsA y.recsN y.recsC], .int .i64 left] w fun e w' => e = .returned (.int .i64 (leftB left (bulkBatch y))) ∧ Below w.heap.size w w' := by
  obtain ⟨yA, yN, yC, yL⟩ := y
  have hle := gr.le
  have hm := gr.max
  unfold maxLen at *
  unfold bulkBatch
  simp only at *
  by_cases c0 : left < ((yN : Nat) : Int)
  · have HL := Lib.hid (leftB_no (left := left) (n := yN) c0)
    have HL2 := Lib.hid (leftB_no (left := left) (n := yN) (by omega))
    go_enter Try.func72, Try.ntmps72
    go_wp2_with fail
    refine (szRecS_any _ _ _ _ _ (by omega) (by omega) (by omega)).mono ?_
    rintro e w1 ⟨rfl, hb⟩
    rw [HL2.out]
    go_wp2
    go_ret
    exact ⟨by rw [HL.out] <;> rfl, ((Below.refl w.heap.size w).alloc (Nat.le_refl _) (.cells #[.slice yA yN yC] 102)).trans (hb.mono (by simp))⟩
  · have HL := Lib.hid (leftB_yes (left := left) (n := yN) c0)
    have HL2 := Lib.hid (leftB_yes (left := left) (n := yN) (by omega))
    go_enter Try.func72, Try.ntmps72
    go_wp2_with fail
    refine (szRecS_any _ _ _ _ _ (by omega) (by omega) (by omega)).mono ?_
    rintro e w1 ⟨rfl, hb⟩
    rw [HL2.out]
    go_wp2
    go_ret
    exact ⟨by rw [HL.out]; go_num, ((Below.refl w.heap.size w).alloc (Nat.le_refl _) (.cells #[.slice yA yN yC] 102)).trans (hb.mono (by simp))⟩
set_option maxHeartbeats 1600000 in
theorem toBatch_k (y : BatchR) (w : World) (gr : Rd encRec 3 w y.recsA y.recsN y.recsC y.recs) (hn : bulkBatch y ≤ 1048576) :
    Calls Try.prog 73 #[.agg #[.slice y.recsA y.recsN y.recsC]] w fun e w' => ∃ y' : BatchR, e = .returned (.agg #[.slice y'.recsA y'.recsN y'.recsC]) ∧ datBatch y' = datBatch y ∧ OwnBatch w.heap.size w'.heap.size w' y' ∧ bulkBatch y' = bulkBatch y ∧ Below w.heap.size w w' := by
  obtain ⟨yA, yN, yC, yL⟩ := y
  have hn' : yN ≤ 1048576 := by unfold bulkBatch at hn; simp only at hn; omega
  clear hn
  obtain ⟨R, HR⟩ : ∃ R : Ending → World → Prop, Hid (∀ e w', (∃ y' : BatchR, e = .returned (.agg #[.slice y'.recsA y'.recsN y'.recsC]) ∧ datBatch y' = datBatch ⟨yA, yN, yC, yL⟩ ∧ OwnBatch w.heap.size w'.heap.size w' y' ∧ bulkBatch y' = bulkBatch ⟨yA, yN, yC, yL⟩ ∧ Below w.heap.size w w') = R e w') := ⟨_, fun _ _ => rfl⟩
  simp only [HR.out]
  simp only at *
  go_enter Try.func73, Try.ntmps73
  go_wp2_with fail
  have hb0 := (((Below.refl w.heap.size w).alloc (Nat.le_refl _) (.cells #[.slice yA yN yC] 102)).alloc (by simp) (.cells #[.slice none 0 0] 104)).alloc (by simp; omega) (.cells #[.slice none 0 0] 104)
  refine (toRecS_any _ _ _ yL _ (gr.below hb0 (Nat.le_refl _)) hn').mono ?_
  rintro e w1 ⟨q, rfl, ho, hb⟩
  obtain ⟨hc, hf⟩ := bcell hb
  go_wp2
  have hz : w.heap.size + 2 < w1.heap.size := by have := hb.size; simp at this; omega
  refine bodyPost_ret (v := .agg #[.slice (some ⟨q, 0, none⟩) yN yN]) (by simp [results, Try.results73, go_sem, hc]) rfl ?_
  have hlo := ho.lo_le (lo' := w.heap.size + 3) (by simp)
  have hw := (Win.set (lo := w.heap.size + 1) (hi := w.heap.size + 3) w1 (w.heap.size + 1 + 1) 0 (.slice (some ⟨q, 0, none⟩) yN yN) (by omega) (by omega)).trans (Win.set _ (w.heap.size + 1) 0 (.slice (some ⟨q, 0, none⟩) yN yN) (by omega) (by omega))
  rw [← HR.out]
  exact ⟨⟨some ⟨q, 0, none⟩, yN, yN, yL⟩, rfl, rfl, ⟨((hlo.win hw (Or.inl (Nat.le_refl _))).lo_le (by omega)).grow (by simp only [size_set]; exact Nat.le_refl _) (Nat.le_refl _), Nat.le_refl _⟩, rfl, (hb0.trans (hb.mono (by simp; omega))).trans (hw.below (by omega) (by omega))⟩
set_option maxHeartbeats 1600000 in
theorem eqBatch_k (x y : BatchR) (D D' : List RecR) (hD : datBatch x = D) (hD' : datBatch y = D') (w : World) (h : Rd encRec 3 w x.recsA x.recsN x.recsC x.recs) (h' : Rd encRec 3 w y.recsA y.recsN y.recsC y.recs) :
    Calls Try.prog 74 #[.agg #[.slice x.recsA x.recsN x.recsC], .agg #[.slice y.recsA y.recsN y.recsC]] w fun e w' => e = .returned (.bool (decide (D = D'))) ∧ Below w.heap.size w w' := by
  subst hD
  subst hD'
  have hb0 := ((Below.refl w.heap.size w).alloc (Nat.le_refl _) (.cells #[.slice x.recsA x.recsN x.recsC] 104)).alloc (by simp) (.cells #[.slice y.recsA y.recsN y.recsC] 104)
  have rx := h.below hb0 (Nat.le_refl _)
  have ry := h'.below hb0 (Nat.le_refl _)
  clear h h'
  obtain ⟨xA, xN, xC, xL⟩ := x
  obtain ⟨yA, yN, yC, yL⟩ := y
  unfold datBatch
  simp only at *
  by_cases cL : xL = yL
  · have HE := Lib.hid (decide_eq_true cL)
    have HD : Hid (decide (xL = yL) = true) := Lib.hid (by simp [cL])
    clear cL
    go_enter Try.func74, Try.ntmps74
    go_wp2_with fail
    refine (eqRecS_any _ _ _ _ _ _ xL yL _ rx ry).mono ?_
    rintro e w1 ⟨rfl, hb⟩
    rw [HE.out]
    go_wp2
    go_ret
    exact ⟨by rw [HD.out] <;> rfl, hb0.trans (hb.mono (by simp; omega))⟩
  · have HE := Lib.hid (decide_eq_false cL)
    have HD : Hid (decide (xL = yL) = false) := Lib.hid (by simp [cL])
    clear cL
    go_enter Try.func74, Try.ntmps74
    go_wp2_with fail
    refine (eqRecS_any _ _ _ _ _ _ xL yL _ rx ry).mono ?_
    rintro e w1 ⟨rfl, hb⟩
    rw [HE.out]
    go_wp2
    go_ret
    exact ⟨by rw [HD.out] <;> rfl, hb0.trans (hb.mono (by simp; omega))⟩
end Go.Proofs.Ytifaekkbdmcehaa

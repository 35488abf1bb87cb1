/- Batch in the form that the laws' walks use: szX, toX, eqX, markX, heldX of the statements over a Batch of the call's own. -/
import Derived.Test.YthffmjeodoinlaaTyBatch
import Derived.Test.YthffmjeodoinlaaRecS
import Derived.Test.YthffmjeodoinlaaRowS
namespace Go.Proofs.Ythffmjeodoinlaa
open Go.RowKit
def datBatch (y : BatchR) : List RecR := y.recs
def okBatch (y : BatchR) : Prop := ∀ w0 : World, ∀ z ∈ y.recs, goodRec w0 z
structure OwnBatch (lo hi : Nat) (w : World) (y : BatchR) : Prop where
  row : OwnS encRec 3 41 lo hi w y.recsA y.recsN y.recsC y.recs
  top : hi ≤ w.heap.size
theorem OwnBatch.below {lo hi : Nat} {w w' : World} {y : BatchR} (h : OwnBatch lo hi w y) (hb : Below w.heap.size w w') : OwnBatch lo hi w' y := ⟨h.row.below hb, Nat.le_trans h.top hb.size⟩
theorem OwnBatch.win {lo hi lo' hi' : Nat} {w w' : World} {y : BatchR} (h : OwnBatch lo hi w y) (hw : Win lo' hi' w w') (hd : hi' ≤ lo ∨ hi ≤ lo') : OwnBatch lo hi w' y := ⟨h.row.win hw hd, Nat.le_trans h.top hw.size⟩
theorem OwnBatch.lo_le {lo hi lo' : Nat} {w : World} {y : BatchR} (h : OwnBatch lo hi w y) (hl : lo' ≤ lo) : OwnBatch lo' hi w y := ⟨h.row.lo_le hl, h.top⟩
theorem OwnBatch.good {lo hi : Nat} {w : World} {y : BatchR} (h : OwnBatch lo hi w y) (g : okBatch y) : goodBatch w y := ⟨h.row.rd lenRec, g w⟩
theorem goodBatch_ok {w : World} {y : BatchR} (g : goodBatch w y) : okBatch y := fun _ => g.2
theorem okBatch_dat {y y' : BatchR} (g : okBatch y) (h : datBatch y' = datBatch y) : okBatch y' := by
  unfold datBatch at h
  unfold okBatch
  rw [h]
  exact g
/-- How much of the budget it takes. -/
def bulkBatch (y : BatchR) : Nat := y.recsN
set_option maxHeartbeats 1600000 in
theorem eqBatch_k (x y : BatchR) (D D' : List RecR) (hD : datBatch x = D) (hD' : datBatch y = D') (w : World) (h : Rd encRec 3 w x.recsA x.recsN x.recsC x.recs) (h' : Rd encRec 3 w y.recsA y.recsN y.recsC y.recs) :
    Calls Try.prog 43 #[.agg #[.slice x.recsA x.recsN x.recsC], .agg #[.slice y.recsA y.recsN y.recsC]] w fun e w' => e = .returned (.bool (decide (D = D'))) ∧ Below w.heap.size w w' := by
  subst hD
  subst hD'
  have hb0 := ((Below.refl w.heap.size w).alloc (Nat.le_refl _) (.cells #[.slice x.recsA x.recsN x.recsC] 68)).alloc (by simp) (.cells #[.slice y.recsA y.recsN y.recsC] 68)
  have rx := h.below hb0 (Nat.le_refl _)
  have ry := h'.below hb0 (Nat.le_refl _)
  clear h h'
  obtain ⟨xA, xN, xC, xL⟩ := x
  obtain ⟨yA, yN, yC, yL⟩ := y
  unfold datBatch
  simp only at *
  by_cases cL : xL = yL
  · have HE := Lib.hid (decide_eq_true cL)
    have HD : Hid (decide (xL = yL) = true) := Lib.hid (by simp [cL])
    clear cL
    go_enter Try.func43, Try.ntmps43
    go_wp2_with fail
    refine (eqRecS_any _ _ _ _ _ _ xL yL _ rx ry).mono ?_
    rintro e w1 ⟨rfl, hb⟩
    rw [HE.out]
    go_wp2
    go_ret
    exact ⟨by rw [HD.out] <;> rfl, hb0.trans (hb.mono (by simp; omega))⟩
  · have HE := Lib.hid (decide_eq_false cL)
    have HD : Hid (decide (xL = yL) = false) := Lib.hid (by simp [cL])
    clear cL
    go_enter Try.func43, Try.ntmps43
    go_wp2_with fail
    refine (eqRecS_any _ _ _ _ _ _ xL yL _ rx ry).mono ?_
    rintro e w1 ⟨rfl, hb⟩
    rw [HE.out]
    go_wp2
    go_ret
    exact ⟨by rw [HD.out] <;> rfl, hb0.trans (hb.mono (by simp; omega))⟩
end Go.Proofs.Ythffmjeodoinlaa

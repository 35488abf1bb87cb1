/- Shard in the form that the laws' walks use: szX, toX, eqX, markX, heldX of the statements over a Shard of the call's own. -/
import Derived.Test.YtifaekkbdmcehaaTyShard
import Derived.Test.YtifaekkbdmcehaaSEdgeS
import Derived.Test.YtifaekkbdmcehaaRowS
namespace Go.Proofs.Ytifaekkbdmcehaa
open Go.RowKit
def datShard (y : ShardR) : Int × Int × List SEdgeR := (y.lo, y.hi, y.edges)
def okShard (y : ShardR) : Prop := (In64 y.lo) ∧ (In64 y.hi) ∧ ∀ w0 : World, ∀ z ∈ y.edges, goodSEdge w0 z
structure OwnShard (lo hi : Nat) (w : World) (y : ShardR) : Prop where
  row : OwnS encSEdge 5 94 lo hi w y.edgesA y.edgesN y.edgesC y.edges
  top : hi ≤ w.heap.size
theorem OwnShard.below {lo hi : Nat} {w w' : World} {y : ShardR} (h : OwnShard lo hi w y) (hb : Below w.heap.size w w') : OwnShard lo hi w' y := ⟨h.row.below hb, Nat.le_trans h.top hb.size⟩
theorem OwnShard.win {lo hi lo' hi' : Nat} {w w' : World} {y : ShardR} (h : OwnShard lo hi w y) (hw : Win lo' hi' w w') (hd : hi' ≤ lo ∨ hi ≤ lo') : OwnShard lo hi w' y := ⟨h.row.win hw hd, Nat.le_trans h.top hw.size⟩
theorem OwnShard.lo_le {lo hi lo' : Nat} {w : World} {y : ShardR} (h : OwnShard lo hi w y) (hl : lo' ≤ lo) : OwnShard lo' hi w y := ⟨h.row.lo_le hl, h.top⟩
theorem OwnShard.good {lo hi : Nat} {w : World} {y : ShardR} (h : OwnShard lo hi w y) (g : okShard y) : goodShard w y := ⟨g.1, g.2.1, h.row.rd lenSEdge, g.2.2 w⟩
theorem goodShard_ok {w : World} {y : ShardR} (g : goodShard w y) : okShard y := ⟨g.1, g.2.1, fun _ => g.2.2.2⟩
theorem okShard_dat {y y' : ShardR} (g : okShard y) (h : datShard y' = datShard y) : okShard y' := by
  unfold datShard at h
  simp only [Prod.mk.injEq] at h
  obtain ⟨h0, h1, h2⟩ := h
  unfold okShard
  rw [h0, h1, h2]
  exact g
/-- How much of the budget it takes. -/
def bulkShard (y : ShardR) : Nat := y.edgesN
set_option maxHeartbeats 800000 in
theorem szShard_k (y : ShardR) (left : Int) (w : World) (gr : Rd encSEdge 5 w y.edgesA y.edgesN y.edgesC y.edges) (h1 : 0 ≤ left) (h2 : left ≤ 1048576) :
    Calls Try.prog 23 #[.agg #[.int .i64 y.lo, .int .i64 y.hi, .slice y.edgesA y.edgesN y.edgesC], .int .i64 left] w fun e w' => e = .returned (.int .i64 (leftB left (bulkShard y))) ∧ Below w.heap.size w w' := by
  obtain ⟨y0, y1, yA, yN, yC, yL⟩ := y
  have hle := gr.le
  have hm := gr.max
  unfold maxLen at *
  unfold bulkShard
  simp only at *
  by_cases c0 : left < ((yN : Nat) : Int)
  · have HL := Lib.hid (leftB_no (left := left) (n := yN) c0)
    have HL2 := Lib.hid (leftB_no (left := left) (n := yN) (by omega))
    go_enter Try.func23, Try.ntmps23
    go_wp2_with fail
    refine (szSEdgeS_any _ _ _ _ _ (by omega) (by omega) (by omega)).mono ?_
    rintro e w1 ⟨rfl, hb⟩
    rw [HL2.out]
    go_wp2
    go_ret
    exact ⟨by rw [HL.out] <;> rfl, ((Below.refl w.heap.size w).alloc (Nat.le_refl _) (.cells #[.int .i64 y0, .int .i64 y1, .slice yA yN yC] 42)).trans (hb.mono (by simp))⟩
  · have HL := Lib.hid (leftB_yes (left := left) (n := yN) c0)
    have HL2 := Lib.hid (leftB_yes (left := left) (n := yN) (by omega))
    go_enter Try.func23, Try.ntmps23
    go_wp2_with fail
    refine (szSEdgeS_any _ _ _ _ _ (by omega) (by omega) (by omega)).mono ?_
    rintro e w1 ⟨rfl, hb⟩
    rw [HL2.out]
    go_wp2
    go_ret
    exact ⟨by rw [HL.out]; go_num, ((Below.refl w.heap.size w).alloc (Nat.le_refl _) (.cells #[.int .i64 y0, .int .i64 y1, .slice yA yN yC] 42)).trans (hb.mono (by simp))⟩
set_option maxHeartbeats 1600000 in
theorem toShard_k (y : ShardR) (w : World) (gr : Rd encSEdge 5 w y.edgesA y.edgesN y.edgesC y.edges) (hn : bulkShard y ≤ 1048576) :
    Calls Try.prog 25 #[.agg #[.int .i64 y.lo, .int .i64 y.hi, .slice y.edgesA y.edgesN y.edgesC]] w fun e w' => ∃ y' : ShardR, e = .returned (.agg #[.int .i64 y'.lo, .int .i64 y'.hi, .slice y'.edgesA y'.edgesN y'.edgesC]) ∧ datShard y' = datShard y ∧ OwnShard w.heap.size w'.heap.size w' y' ∧ bulkShard y' = bulkShard y ∧ Below w.heap.size w w' := by
  obtain ⟨y0, y1, yA, yN, yC, yL⟩ := y
  have hn' : yN ≤ 1048576 := by unfold bulkShard at hn; simp only at hn; omega
  clear hn
  obtain ⟨R, HR⟩ : ∃ R : Ending → World → Prop, Hid (∀ e w', (∃ y' : ShardR, e = .returned (.agg #[.int .i64 y'.lo, .int .i64 y'.hi, .slice y'.edgesA y'.edgesN y'.edgesC]) ∧ datShard y' = datShard ⟨y0, y1, yA, yN, yC, yL⟩ ∧ OwnShard w.heap.size w'.heap.size w' y' ∧ bulkShard y' = bulkShard ⟨y0, y1, yA, yN, yC, yL⟩ ∧ Below w.heap.size w w') = R e w') := ⟨_, fun _ _ => rfl⟩
  simp only [HR.out]
  simp only at *
  go_enter Try.func25, Try.ntmps25
  go_wp2_with fail
  have hb0 := (((Below.refl w.heap.size w).alloc (Nat.le_refl _) (.cells #[.int .i64 y0, .int .i64 y1, .slice yA yN yC] 42)).alloc (by simp) (.cells #[.int .i64 0, .int .i64 0, .slice none 0 0] 47)).alloc (by simp; omega) (.cells #[.int .i64 y0, .int .i64 y1, .slice none 0 0] 47)
  refine (toSEdgeS_any _ _ _ yL _ (gr.below hb0 (Nat.le_refl _)) hn').mono ?_
  rintro e w1 ⟨q, rfl, ho, hb⟩
  obtain ⟨hc, hf⟩ := bcell hb
  go_wp2
  have hz : w.heap.size + 2 < w1.heap.size := by have := hb.size; simp at this; omega
  refine bodyPost_ret (v := .agg #[.int .i64 y0, .int .i64 y1, .slice (some ⟨q, 0, none⟩) yN yN]) (by simp [results, Try.results25, go_sem, hc]) rfl ?_
  have hlo := ho.lo_le (lo' := w.heap.size + 3) (by simp)
  have hw := (((Win.set (lo := w.heap.size + 1) (hi := w.heap.size + 3) w1 (w.heap.size + 1 + 1) 2 (.slice (some ⟨q, 0, none⟩) yN yN) (by omega) (by omega)).trans (Win.set _ (w.heap.size + 1) 0 (.int .i64 y0) (by omega) (by omega))).trans (Win.set _ (w.heap.size + 1) 1 (.int .i64 y1) (by omega) (by omega))).trans (Win.set _ (w.heap.size + 1) 2 (.slice (some ⟨q, 0, none⟩) yN yN) (by omega) (by omega))
  rw [← HR.out]
  exact ⟨⟨y0, y1, some ⟨q, 0, none⟩, yN, yN, yL⟩, rfl, rfl, ⟨((hlo.win hw (Or.inl (Nat.le_refl _))).lo_le (by omega)).grow (by simp only [size_set]; exact Nat.le_refl _) (Nat.le_refl _), Nat.le_refl _⟩, rfl, (hb0.trans (hb.mono (by simp; omega))).trans (hw.below (by omega) (by omega))⟩
set_option maxHeartbeats 1600000 in
theorem eqShard_k (x y : ShardR) (D D' : Int × Int × List SEdgeR) (hD : datShard x = D) (hD' : datShard y = D') (w : World) (h : Rd encSEdge 5 w x.edgesA x.edgesN x.edgesC x.edges) (h' : Rd encSEdge 5 w y.edgesA y.edgesN y.edgesC y.edges) :
    Calls Try.prog 27 #[.agg #[.int .i64 x.lo, .int .i64 x.hi, .slice x.edgesA x.edgesN x.edgesC], .agg #[.int .i64 y.lo, .int .i64 y.hi, .slice y.edgesA y.edgesN y.edgesC]] w fun e w' => e = .returned (.bool (decide (D = D'))) ∧ Below w.heap.size w w' := by
  subst hD
  subst hD'
  have hb0 := ((Below.refl w.heap.size w).alloc (Nat.le_refl _) (.cells #[.int .i64 x.lo, .int .i64 x.hi, .slice x.edgesA x.edgesN x.edgesC] 47)).alloc (by simp) (.cells #[.int .i64 y.lo, .int .i64 y.hi, .slice y.edgesA y.edgesN y.edgesC] 47)
  have rx := h.below hb0 (Nat.le_refl _)
  have ry := h'.below hb0 (Nat.le_refl _)
  clear h h'
  obtain ⟨x0, x1, xA, xN, xC, xL⟩ := x
  obtain ⟨y0, y1, yA, yN, yC, yL⟩ := y
  unfold datShard
  simp only at *
  by_cases c0 : x0 = y0
  · subst c0
    by_cases c1 : x1 = y1
    · subst c1
      by_cases cL : xL = yL
      · have HE := Lib.hid (decide_eq_true cL)
        have HD : Hid (decide ((x0, x1, xL) = (x0, x1, yL)) = true) := Lib.hid (by simp [cL])
        clear cL
        go_enter Try.func27, Try.ntmps27
        go_wp2_with fail
        refine (eqSEdgeS_any _ _ _ _ _ _ xL yL _ rx ry).mono ?_
        rintro e w1 ⟨rfl, hb⟩
        rw [HE.out]
        go_wp2
        go_ret
        exact ⟨by rw [HD.out] <;> rfl, hb0.trans (hb.mono (by simp; omega))⟩
      · have HE := Lib.hid (decide_eq_false cL)
        have HD : Hid (decide ((x0, x1, xL) = (x0, x1, yL)) = false) := Lib.hid (by simp [cL])
        clear cL
        go_enter Try.func27, Try.ntmps27
        go_wp2_with fail
        refine (eqSEdgeS_any _ _ _ _ _ _ xL yL _ rx ry).mono ?_
        rintro e w1 ⟨rfl, hb⟩
        rw [HE.out]
        go_wp2
        go_ret
        exact ⟨by rw [HD.out] <;> rfl, hb0.trans (hb.mono (by simp; omega))⟩
    · have HD : Hid (decide ((x0, x1, xL) = (x0, y1, yL)) = false) := Lib.hid (by simp [c1])
      have hk : (x1 != y1) = true := by simp [c1]
      clear c1 rx ry
      go_enter Try.func27, Try.ntmps27
      go_wp2
      go_ret
      exact ⟨by rw [HD.out] <;> rfl, hb0⟩
  · have HD : Hid (decide ((x0, x1, xL) = (y0, y1, yL)) = false) := Lib.hid (by simp [c0])
    have hk : (x0 != y0) = true := by simp [c0]
    clear c0 rx ry
    go_enter Try.func27, Try.ntmps27
    go_wp2
    go_ret
    exact ⟨by rw [HD.out] <;> rfl, hb0⟩
end Go.Proofs.Ytifaekkbdmcehaa

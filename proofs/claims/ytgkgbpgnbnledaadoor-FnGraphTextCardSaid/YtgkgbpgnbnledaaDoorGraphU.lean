/- Graph in the form that the laws' walks use: szX, toX, eqX, markX, heldX of the statements over a Graph of the call's own. -/
import Derived.Test.YtgkgbpgnbnledaaDoorTyGraph
import Derived.Test.YtgkgbpgnbnledaaDoorEdgeS
import Derived.Test.YtgkgbpgnbnledaaDoorRowS
import Derived.Test.YtgkgbpgnbnledaaDoorEdgeM
namespace Go.Proofs.YtgkgbpgnbnledaaDoor
open Go.RowKit
def datGraph (y : GraphR) : Int × List EdgeR := (y.n, y.edges)
def okGraph (y : GraphR) : Prop := (In64 y.n) ∧ ∀ w0 : World, ∀ z ∈ y.edges, goodEdge w0 z
structure OwnGraph (lo hi : Nat) (w : World) (y : GraphR) : Prop where
  row : OwnS encEdge 3 50 lo hi w y.edgesA y.edgesN y.edgesC y.edges
  top : hi ≤ w.heap.size
theorem OwnGraph.below {lo hi : Nat} {w w' : World} {y : GraphR} (h : OwnGraph lo hi w y) (hb : Below w.heap.size w w') : OwnGraph lo hi w' y := ⟨h.row.below hb, Nat.le_trans h.top hb.size⟩
theorem OwnGraph.win {lo hi lo' hi' : Nat} {w w' : World} {y : GraphR} (h : OwnGraph lo hi w y) (hw : Win lo' hi' w w') (hd : hi' ≤ lo ∨ hi ≤ lo') : OwnGraph lo hi w' y := ⟨h.row.win hw hd, Nat.le_trans h.top hw.size⟩
theorem OwnGraph.lo_le {lo hi lo' : Nat} {w : World} {y : GraphR} (h : OwnGraph lo hi w y) (hl : lo' ≤ lo) : OwnGraph lo' hi w y := ⟨h.row.lo_le hl, h.top⟩
theorem OwnGraph.good {lo hi : Nat} {w : World} {y : GraphR} (h : OwnGraph lo hi w y) (g : okGraph y) : goodGraph w y := ⟨g.1, h.row.rd lenEdge, g.2 w⟩
theorem goodGraph_ok {w : World} {y : GraphR} (g : goodGraph w y) : okGraph y := ⟨g.1, fun _ => g.2.2⟩
theorem okGraph_dat {y y' : GraphR} (g : okGraph y) (h : datGraph y' = datGraph y) : okGraph y' := by
  unfold datGraph at h
  simp only [Prod.mk.injEq] at h
  obtain ⟨h0, h1⟩ := h
  unfold okGraph
  rw [h0, h1]
  exact g
/-- How much of the budget it takes. -/
def bulkGraph (y : GraphR) : Nat := y.edgesN
set_option maxHeartbeats 800000 in
theorem szGraph_k (y : GraphR) (left : Int) (w : World) (gr : Rd encEdge 3 w y.edgesA y.edgesN y.edgesC y.edges) (h1 : 0 ≤ left) (h2 : left ≤ 1048576) :
    Calls Tryd.prog 17 #[.agg #[.int .i64 y.n, .slice y.edgesA y.edgesN y.edgesC], .int .i64 left] w fun e w' => e = .returned (.int .i64 (leftB left (bulkGraph y))) ∧ Below w.heap.size w w' := by
  obtain ⟨y0, yA, yN, yC, yL⟩ := y
  have hle := gr.le
  have hm := gr.max
  unfold maxLen at *
  unfold bulkGraph
  simp only at *
  by_cases c0 : left < ((yN : Nat) : Int)
  · have HL := Lib.hid (leftB_no (left := left) (n := yN) c0)
    have HL2 := Lib.hid (leftB_no (left := left) (n := yN) (by omega))
    go_enter Tryd.func17, Tryd.ntmps17
    go_wp2_with fail
    refine (szEdgeS_any _ _ _ _ _ (by omega) (by omega) (by omega)).mono ?_
    rintro e w1 ⟨rfl, hb⟩
    rw [HL2.out]
    go_wp2
    go_ret
    exact ⟨by rw [HL.out] <;> rfl, ((Below.refl w.heap.size w).alloc (Nat.le_refl _) (.cells #[.int .i64 y0, .slice yA yN yC] 31)).trans (hb.mono (by simp))⟩
  · have HL := Lib.hid (leftB_yes (left := left) (n := yN) c0)
    have HL2 := Lib.hid (leftB_yes (left := left) (n := yN) (by omega))
    go_enter Tryd.func17, Tryd.ntmps17
    go_wp2_with fail
    refine (szEdgeS_any _ _ _ _ _ (by omega) (by omega) (by omega)).mono ?_
    rintro e w1 ⟨rfl, hb⟩
    rw [HL2.out]
    go_wp2
    go_ret
    exact ⟨by rw [HL.out]; go_num, ((Below.refl w.heap.size w).alloc (Nat.le_refl _) (.cells #[.int .i64 y0, .slice yA yN yC] 31)).trans (hb.mono (by simp))⟩
set_option maxHeartbeats 1600000 in
theorem toGraph_k (y : GraphR) (w : World) (gr : Rd encEdge 3 w y.edgesA y.edgesN y.edgesC y.edges) (hn : bulkGraph y ≤ 1048576) :
    Calls Tryd.prog 19 #[.agg #[.int .i64 y.n, .slice y.edgesA y.edgesN y.edgesC]] w fun e w' => ∃ y' : GraphR, e = .returned (.agg #[.int .i64 y'.n, .slice y'.edgesA y'.edgesN y'.edgesC]) ∧ datGraph y' = datGraph y ∧ OwnGraph w.heap.size w'.heap.size w' y' ∧ bulkGraph y' = bulkGraph y ∧ Below w.heap.size w w' := by
  obtain ⟨y0, yA, yN, yC, yL⟩ := y
  have hn' : yN ≤ 1048576 := by unfold bulkGraph at hn; simp only at hn; omega
  clear hn
  obtain ⟨R, HR⟩ : ∃ R : Ending → World → Prop, Hid (∀ e w', (∃ y' : GraphR, e = .returned (.agg #[.int .i64 y'.n, .slice y'.edgesA y'.edgesN y'.edgesC]) ∧ datGraph y' = datGraph ⟨y0, yA, yN, yC, yL⟩ ∧ OwnGraph w.heap.size w'.heap.size w' y' ∧ bulkGraph y' = bulkGraph ⟨y0, yA, yN, yC, yL⟩ ∧ Below w.heap.size w w') = R e w') := ⟨_, fun _ _ => rfl⟩
  simp only [HR.out]
  simp only at *
  go_enter Tryd.func19, Tryd.ntmps19
  go_wp2_with fail
  have hb0 := (((Below.refl w.heap.size w).alloc (Nat.le_refl _) (.cells #[.int .i64 y0, .slice yA yN yC] 31)).alloc (by simp) (.cells #[.int .i64 0, .slice none 0 0] 36)).alloc (by simp; omega) (.cells #[.int .i64 y0, .slice none 0 0] 36)
  refine (toEdgeS_any _ _ _ yL _ (gr.below hb0 (Nat.le_refl _)) hn').mono ?_
  rintro e w1 ⟨q, rfl, ho, hb⟩
  obtain ⟨hc, hf⟩ := bcell hb
  go_wp2
  have hz : w.heap.size + 2 < w1.heap.size := by have := hb.size; simp at this; omega
  refine bodyPost_ret (v := .agg #[.int .i64 y0, .slice (some ⟨q, 0, none⟩) yN yN]) (by simp [results, Tryd.results19, go_sem, hc]) rfl ?_
  have hlo := ho.lo_le (lo' := w.heap.size + 3) (by simp)
  have hw := ((Win.set (lo := w.heap.size + 1) (hi := w.heap.size + 3) w1 (w.heap.size + 1 + 1) 1 (.slice (some ⟨q, 0, none⟩) yN yN) (by omega) (by omega)).trans (Win.set _ (w.heap.size + 1) 0 (.int .i64 y0) (by omega) (by omega))).trans (Win.set _ (w.heap.size + 1) 1 (.slice (some ⟨q, 0, none⟩) yN yN) (by omega) (by omega))
  rw [← HR.out]
  exact ⟨⟨y0, some ⟨q, 0, none⟩, yN, yN, yL⟩, rfl, rfl, ⟨((hlo.win hw (Or.inl (Nat.le_refl _))).lo_le (by omega)).grow (by simp only [size_set]; exact Nat.le_refl _) (Nat.le_refl _), Nat.le_refl _⟩, rfl, (hb0.trans (hb.mono (by simp; omega))).trans (hw.below (by omega) (by omega))⟩
set_option maxHeartbeats 1600000 in
theorem eqGraph_k (x y : GraphR) (D D' : Int × List EdgeR) (hD : datGraph x = D) (hD' : datGraph y = D') (w : World) (h : Rd encEdge 3 w x.edgesA x.edgesN x.edgesC x.edges) (h' : Rd encEdge 3 w y.edgesA y.edgesN y.edgesC y.edges) :
    Calls Tryd.prog 21 #[.agg #[.int .i64 x.n, .slice x.edgesA x.edgesN x.edgesC], .agg #[.int .i64 y.n, .slice y.edgesA y.edgesN y.edgesC]] w fun e w' => e = .returned (.bool (decide (D = D'))) ∧ Below w.heap.size w w' := by
  subst hD
  subst hD'
  have hb0 := ((Below.refl w.heap.size w).alloc (Nat.le_refl _) (.cells #[.int .i64 x.n, .slice x.edgesA x.edgesN x.edgesC] 36)).alloc (by simp) (.cells #[.int .i64 y.n, .slice y.edgesA y.edgesN y.edgesC] 36)
  have rx := h.below hb0 (Nat.le_refl _)
  have ry := h'.below hb0 (Nat.le_refl _)
  clear h h'
  obtain ⟨x0, xA, xN, xC, xL⟩ := x
  obtain ⟨y0, yA, yN, yC, yL⟩ := y
  unfold datGraph
  simp only at *
  by_cases c0 : x0 = y0
  · subst c0
    by_cases cL : xL = yL
    · have HE := Lib.hid (decide_eq_true cL)
      have HD : Hid (decide ((x0, xL) = (x0, yL)) = true) := Lib.hid (by simp [cL])
      clear cL
      go_enter Tryd.func21, Tryd.ntmps21
      go_wp2_with fail
      refine (eqEdgeS_any _ _ _ _ _ _ xL yL _ rx ry).mono ?_
      rintro e w1 ⟨rfl, hb⟩
      rw [HE.out]
      go_wp2
      go_ret
      exact ⟨by rw [HD.out] <;> rfl, hb0.trans (hb.mono (by simp; omega))⟩
    · have HE := Lib.hid (decide_eq_false cL)
      have HD : Hid (decide ((x0, xL) = (x0, yL)) = false) := Lib.hid (by simp [cL])
      clear cL
      go_enter Tryd.func21, Tryd.ntmps21
      go_wp2_with fail
      refine (eqEdgeS_any _ _ _ _ _ _ xL yL _ rx ry).mono ?_
      rintro e w1 ⟨rfl, hb⟩
      rw [HE.out]
      go_wp2
      go_ret
      exact ⟨by rw [HD.out] <;> rfl, hb0.trans (hb.mono (by simp; omega))⟩
  · have HD : Hid (decide ((x0, xL) = (y0, yL)) = false) := Lib.hid (by simp [c0])
    have hk : (x0 != y0) = true := by simp [c0]
    clear c0 rx ry
    go_enter Tryd.func21, Tryd.ntmps21
    go_wp2
    go_ret
    exact ⟨by rw [HD.out] <;> rfl, hb0⟩
set_option maxHeartbeats 400000 in
theorem markGraph_u (y : GraphR) (k : Int) (lo hi : Nat) (w : World) (h : OwnGraph lo hi w y) (hn : y.edgesN ≤ 1048576) (hk0 : 0 ≤ k) (hk1 : k ≤ 2305843009213693952) :
    Calls Tryd.prog 26 #[.agg #[.int .i64 y.n, .slice y.edgesA y.edgesN y.edgesC], .int .i64 k] w fun e w' => e = .returned (.int .i64 (k + 3 * y.edgesN)) ∧ OwnS encEdge 3 50 lo hi w' y.edgesA y.edgesN y.edgesC (mksEdge k y.edgesN) ∧ Win lo hi w w' := by
  have hb0 := (Below.refl w.heap.size w).alloc (Nat.le_refl _) (.cells #[.int .i64 y.n, .slice y.edgesA y.edgesN y.edgesC] 36)
  have he := h.row.below hb0
  obtain ⟨y0, yA, yN, yC, yL⟩ := y
  simp only at *
  go_enter Tryd.func26, Tryd.ntmps26
  go_wp2_with fail
  refine (markEdgeS_any _ _ _ _ _ _ _ _ he (by omega) hk0 hk1).mono ?_
  rintro e w1 ⟨rfl, ho, hw⟩
  go_wp2
  go_ret
  exact ⟨rfl, ho, (Win.of_below hb0).trans hw⟩
set_option maxHeartbeats 400000 in
theorem heldGraph_u (y : GraphR) (k : Int) (w : World) (h : Rd encEdge 3 w y.edgesA y.edgesN y.edgesC (mksEdge k y.edgesN)) (hn : y.edgesN ≤ 1048576) (hk0 : 0 ≤ k) (hk1 : k ≤ 2305843009213693952) :
    Calls Tryd.prog 27 #[.agg #[.int .i64 y.n, .slice y.edgesA y.edgesN y.edgesC], .int .i64 k] w fun e w' => e = .returned (.int .i64 (k + 3 * y.edgesN)) ∧ Below w.heap.size w w' := by
  have hb0 := (Below.refl w.heap.size w).alloc (Nat.le_refl _) (.cells #[.int .i64 y.n, .slice y.edgesA y.edgesN y.edgesC] 36)
  have he := h.below hb0 (Nat.le_refl _)
  obtain ⟨y0, yA, yN, yC, yL⟩ := y
  simp only at *
  go_enter Tryd.func27, Tryd.ntmps27
  go_wp2_with fail
  refine (heldEdgeS_any _ _ _ _ _ he (by omega) hk0 hk1).mono ?_
  rintro e w1 ⟨rfl, hb⟩
  go_wp2
  go_ret
  exact ⟨rfl, hb0.trans (hb.mono (by simp))⟩
end Go.Proofs.YtgkgbpgnbnledaaDoor

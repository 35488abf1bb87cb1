/- Graph in the form that the laws' walks use: toGraph, eqGraph, szGraph over a graph of the call's own. -/
import Derived.Test.YtifaekkbdmcehaaTyGraph
import Derived.Test.YtifaekkbdmcehaaEdgeS
namespace Go.Proofs.Ytifaekkbdmcehaa
open Go.RowKit
def datGraph (y : GraphR) : Int × List EdgeR := (y.n, y.edges)
def okGraph (y : GraphR) : Prop := In64 y.n ∧ ∀ z ∈ y.edges, In64 z.fr ∧ In64 z.to ∧ In64 z.wt
structure OwnGraph (lo hi : Nat) (w : World) (y : GraphR) : Prop where
  edges : OwnS encEdge 3 89 lo hi w y.edgesA y.edgesN y.edgesC y.edges
  top : hi ≤ w.heap.size
theorem OwnGraph.below {lo hi : Nat} {w w' : World} {y : GraphR} (h : OwnGraph lo hi w y) (hb : Below w.heap.size w w') : OwnGraph lo hi w' y := ⟨h.edges.below hb, Nat.le_trans h.top hb.size⟩
theorem OwnGraph.win {lo hi lo' hi' : Nat} {w w' : World} {y : GraphR} (h : OwnGraph lo hi w y) (hw : Win lo' hi' w w') (hd : hi' ≤ lo ∨ hi ≤ lo') : OwnGraph lo hi w' y := ⟨h.edges.win hw hd, Nat.le_trans h.top hw.size⟩
theorem OwnGraph.good {lo hi : Nat} {w : World} {y : GraphR} (h : OwnGraph lo hi w y) (g : okGraph y) : goodGraph w y := ⟨g.1, h.edges.rd lenEdge, g.2⟩
theorem goodGraph_ok {w : World} {y : GraphR} (g : goodGraph w y) : okGraph y := ⟨g.1, g.2.2⟩
theorem okGraph_dat {y y' : GraphR} (g : okGraph y) (h : datGraph y' = datGraph y) : okGraph y' := by
  unfold datGraph at h
  simp only [Prod.mk.injEq] at h
  unfold okGraph
  rw [h.1, h.2]
  exact g
/-- How much of the budget it takes. -/
def bulkGraph (y : GraphR) : Nat := y.edgesN
set_option maxHeartbeats 400000 in
theorem szGraph_u (y : GraphR) (left : Int) (w : World) (g : goodGraph w y) (h1 : 0 ≤ left) (h2 : left ≤ 1048576) :
    Calls Try.prog 18 #[.agg #[.int .i64 y.n, .slice y.edgesA y.edgesN y.edgesC], .int .i64 left] w fun e w' => e = .returned (.int .i64 (leftB left (bulkGraph y))) ∧ Below w.heap.size w w' := by
  obtain ⟨n, da, dn, dc, d⟩ := y
  obtain ⟨g1, g2, g3⟩ := g
  have hle := g2.le
  have hm := g2.max
  unfold maxLen at hm
  unfold bulkGraph
  simp only at *
  by_cases h : left < dn
  · have HL := Lib.hid (leftB_no h)
    go_enter Try.func18, Try.ntmps18
    go_wp2_with fail
    refine (szEdgeS_any _ _ _ _ _ h1 h2 (by omega)).mono ?_
    rintro e w1 ⟨rfl, hb⟩
    rw [HL.out]
    go_wp2
    go_ret
    exact ⟨by rw [HL.out]; rfl, ((Below.refl _ _).alloc (Nat.le_refl _) _).trans (hb.mono (by simp))⟩
  · have HL := Lib.hid (leftB_yes h)
    go_enter Try.func18, Try.ntmps18
    go_wp2_with fail
    refine (szEdgeS_any _ _ _ _ _ h1 h2 (by omega)).mono ?_
    rintro e w1 ⟨rfl, hb⟩
    rw [HL.out]
    go_wp2
    go_ret
    exact ⟨by rw [HL.out]; rfl, ((Below.refl _ _).alloc (Nat.le_refl _) _).trans (hb.mono (by simp))⟩
set_option maxHeartbeats 800000 in
theorem toGraph_u (y : GraphR) (w : World) (g : goodGraph w y) (hn : bulkGraph y ≤ 1048576) :
    Calls Try.prog 20 #[.agg #[.int .i64 y.n, .slice y.edgesA y.edgesN y.edgesC]] w fun e w' => ∃ y' : GraphR, e = .returned (.agg #[.int .i64 y'.n, .slice y'.edgesA y'.edgesN y'.edgesC]) ∧ datGraph y' = datGraph y ∧ OwnGraph w.heap.size w'.heap.size w' y' ∧ bulkGraph y' = bulkGraph y ∧ Below w.heap.size w w' := by
  obtain ⟨kind, da, dn, dc, d⟩ := y
  obtain ⟨g1, g2, g3⟩ := g
  have hn' : dn ≤ 1048576 := hn
  clear hn
  obtain ⟨R, HR⟩ : ∃ R : Ending → World → Prop, Hid (∀ e w', (∃ y' : GraphR, e = .returned (.agg #[.int .i64 y'.n, .slice y'.edgesA y'.edgesN y'.edgesC]) ∧ datGraph y' = datGraph ⟨kind, da, dn, dc, d⟩ ∧ OwnGraph w.heap.size w'.heap.size w' y' ∧ bulkGraph y' = bulkGraph ⟨kind, da, dn, dc, d⟩ ∧ Below w.heap.size w w') = R e w') := ⟨_, fun _ _ => rfl⟩
  simp only [HR.out]
  simp only at *
  go_enter Try.func20, Try.ntmps20
  go_wp2_with fail
  have hb0 := (((Below.refl w.heap.size w).alloc (Nat.le_refl _) (.cells #[.int .i64 kind, .slice da dn dc] 31)).alloc (by simp) (.cells #[.int .i64 0, .slice none 0 0] 36)).alloc (by simp; omega) (.cells #[.int .i64 kind, .slice none 0 0] 36)
  refine (toEdgeS_any _ _ _ d _ (g2.below hb0 (Nat.le_refl _)) hn').mono ?_
  rintro e w1 ⟨q, rfl, ho, hb⟩
  obtain ⟨hc, hf⟩ := bcell hb
  go_wp2
  have hz : w.heap.size + 2 < w1.heap.size := by have := hb.size; simp at this; omega
  refine bodyPost_ret (v := .agg #[.int .i64 kind, .slice (some ⟨q, 0, none⟩) dn dn]) (by simp [results, Try.results20, go_sem, hc]) rfl ?_
  have hlo := ho.lo_le (lo' := w.heap.size + 3) (by simp)
  have hw := ((Win.set (lo := w.heap.size + 1) (hi := w.heap.size + 3) w1 (w.heap.size + 1 + 1) 1 (.slice (some ⟨q, 0, none⟩) dn dn) (by omega) (by omega)).trans (Win.set _ (w.heap.size + 1) 0 (.int .i64 kind) (by omega) (by omega))).trans (Win.set _ (w.heap.size + 1) 1 (.slice (some ⟨q, 0, none⟩) dn dn) (by omega) (by omega))
  rw [← HR.out]
  exact ⟨⟨kind, some ⟨q, 0, none⟩, dn, dn, d⟩, rfl, rfl, ⟨((hlo.win hw (Or.inl (Nat.le_refl _))).lo_le (by omega)).grow (by simp only [size_set]; exact Nat.le_refl _) (Nat.le_refl _), Nat.le_refl _⟩, rfl, (hb0.trans (hb.mono (by simp; omega))).trans (hw.below (by omega) (by omega))⟩
set_option maxHeartbeats 800000 in
theorem eqGraph_any (k1 k2 : Int) (a b : Option Addr) (n cap m cap' : Nat) (xs ys : List EdgeR) (w : World) (h : Rd encEdge 3 w a n cap xs) (h' : Rd encEdge 3 w b m cap' ys) :
    Calls Try.prog 22 #[.agg #[.int .i64 k1, .slice a n cap], .agg #[.int .i64 k2, .slice b m cap']] w fun e w' => e = .returned (.bool (decide (k1 = k2) && decide (xs = ys))) ∧ Below w.heap.size w w' := by
  have hb0 := ((Below.refl w.heap.size w).alloc (Nat.le_refl _) (.cells #[.int .i64 k1, .slice a n cap] 36)).alloc (by simp) (.cells #[.int .i64 k2, .slice b m cap'] 36)
  by_cases hk : k1 = k2
  · subst hk
    go_enter Try.func22, Try.ntmps22
    go_wp2_with fail
    refine (eqEdgeS_any _ _ _ _ _ _ xs ys _ (h.below hb0 (Nat.le_refl _)) (h'.below hb0 (Nat.le_refl _))).mono ?_
    rintro e w1 ⟨rfl, hb⟩
    by_cases he : xs = ys
    · have HE := Lib.hid (decide_eq_true he)
      rw [HE.out]
      clear he
      go_wp2
      go_ret
      exact ⟨by rw [HE.out]; simp, hb0.trans (hb.mono (by simp; omega))⟩
    · have HE := Lib.hid (decide_eq_false he)
      rw [HE.out]
      clear he
      go_wp2
      go_ret
      exact ⟨by rw [HE.out]; simp, hb0.trans (hb.mono (by simp; omega))⟩
  · have hk1 : (k1 != k2) = true := by simp [hk]
    go_enter Try.func22, Try.ntmps22
    go_wp2
    go_ret
    exact ⟨by simp [hk], hb0⟩
theorem eqGraph_u (x y : GraphR) (D D' : Int × List EdgeR) (hD : datGraph x = D) (hD' : datGraph y = D') (w : World) (h : goodGraph w x) (h' : goodGraph w y) :
    Calls Try.prog 22 #[.agg #[.int .i64 x.n, .slice x.edgesA x.edgesN x.edgesC], .agg #[.int .i64 y.n, .slice y.edgesA y.edgesN y.edgesC]] w fun e w' => e = .returned (.bool (decide (D = D'))) ∧ Below w.heap.size w w' := by
  refine (eqGraph_any x.n y.n x.edgesA y.edgesA x.edgesN x.edgesC y.edgesN y.edgesC x.edges y.edges w h.2.1 h'.2.1).mono ?_
  rintro e w' ⟨rfl, hb⟩
  refine ⟨ret_b ?_, hb⟩
  rw [← hD, ← hD']
  unfold datGraph
  rw [Bool.eq_iff_iff]
  simp
end Go.Proofs.Ytifaekkbdmcehaa

/- FnExactGraphText: the walk of the law out of the contracts of what it calls. -/
import Derived.Test.YtgkgbpgnbnledaaDoorGrT
import Derived.Test.YtgkgbpgnbnledaaDoorGraphOkU
import Derived.Test.YtgkgbpgnbnledaaDoorKeep
namespace Go.Proofs.YtgkgbpgnbnledaaDoor
open Go.RowKit
theorem graphText_spec_u (y : GraphR) (D : Int × List EdgeR) (hD : datGraph y = D) (w : World) (g : goodGraph w y) :
    Calls Tryd.prog 18 #[.agg #[.int .i64 y.n, .slice y.edgesA y.edgesN y.edgesC]] w fun e w' => e = .returned (.string (mkB (graphTextD D.1 D.2))) ∧ Below w.heap.size w w' := by
  subst hD
  exact graphText_spec y.n _ _ _ y.edges w g.2.1 g.1 g.2.2
theorem graphText_impl_u (y : GraphR) (D : Int × List EdgeR) (hD : datGraph y = D) (w : World) (hp : Pow Tryd.prog w) (g : goodGraph w y) :
    Calls Tryd.prog 20 #[.agg #[.int .i64 y.n, .slice y.edgesA y.edgesN y.edgesC]] w fun e w' => e = .returned (.string (mkB (graphTextD D.1 D.2))) ∧ Below w.heap.size w w' := by
  subst hD
  exact graphText_impl y.n _ _ _ y.edges w g.2.1 g.1 g.2.2 hp
set_option linter.unusedVariables false in
set_option maxRecDepth 100000 in
set_option maxHeartbeats 3200000 in
theorem walk_FnExactGraphText (y0 : GraphR) (w : World) (hp : Pow Tryd.prog w) (g0 : goodGraph w y0) :
    Calls Tryd.prog 5 #[.agg #[.int .i64 y0.n, .slice y0.edgesA y0.edgesN y0.edgesC]] w fun e w' => e = .returned (.bool true) ∧ Below w.heap.size w w' := by
  have hb0 := (Below.refl w.heap.size w).alloc (Nat.le_refl _) (.cells #[.int .i64 y0.n, .slice y0.edgesA y0.edgesN y0.edgesC] 31)
  by_cases hn0 : bulkGraph y0 ≤ 1048576
  · have HL := Lib.hid (leftB_yes (left := 1048576) (n := bulkGraph y0) (by omega))
    have okY := goodGraph_ok g0
    have hse := bs_eq (mkB (graphTextD (datGraph y0).1 (datGraph y0).2)) (mkB (graphTextD (datGraph y0).1 (datGraph y0).2))
    rw [decide_eq_true rfl] at hse
    go_enter Tryd.func5, Tryd.ntmps5
    go_wp2_with fail
    refine (szGraph_k y0 _ _ (goodGraph_below g0 hb0 (Nat.le_refl _)).2.1 (by omega) (by omega)).mono ?_
    rintro e w1 ⟨rfl, hb1⟩
    have BB1 := hb0.trans (hb1.mono (by simp))
    have sz1 : w.heap.size + 1 ≤ w1.heap.size := by have := hb1.size; simpa using this
    obtain ⟨hc1, hf1⟩ := bcell hb1
    have c1_a0 : w1.cell? ⟨w.heap.size, 0, none⟩ = some (.int .i64 y0.n) := by rw [hc1 _ _ (by simp)]; simp [go_sem]
    have c1_a1 : w1.cell? ⟨w.heap.size, 1, none⟩ = some (.slice y0.edgesA y0.edgesN y0.edgesC) := by rw [hc1 _ _ (by simp)]; simp [go_sem]
    clear hc1 hf1
    rw [HL.out]
    go_wp2_with fail
    refine (toGraph_k y0 _ (goodGraph_below g0 BB1 (Nat.le_refl _)).2.1 hn0).mono ?_
    rintro e w2 ⟨u, rfl, hdu, H2u, hku, hb2⟩
    have BB2 := BB1.trans (hb2.mono BB1.size)
    have sz2 := hb2.size
    have c2_a0 := cell_later hb2 c1_a0
    clear c1_a0
    have c2_a1 := cell_later hb2 c1_a1
    clear c1_a1
    have HDu := Lib.hid hdu
    clear hdu
    have oku := okGraph_dat okY HDu.out
    have HKu := Lib.hid hku
    clear hku
    go_wp2_with fail
    refine (graphText_spec_u u (datGraph y0) HDu.out _ ((H2u).good oku)).mono ?_
    rintro e w3 ⟨rfl, hb3⟩
    have BB3 := BB2.trans (hb3.mono BB2.size)
    have sz3 := hb3.size
    have H3u := H2u.below hb3
    clear H2u
    have c3_a0 := cell_later hb3 c2_a0
    clear c2_a0
    have c3_a1 := cell_later hb3 c2_a1
    clear c2_a1
    go_wp2_with fail
    refine (toGraph_k y0 _ (goodGraph_below g0 BB3 (Nat.le_refl _)).2.1 hn0).mono ?_
    rintro e w4 ⟨x, rfl, hdx, H4x, hkx, hb4⟩
    have BB4 := BB3.trans (hb4.mono BB3.size)
    have sz4 := hb4.size
    have c4_a0 := cell_later hb4 c3_a0
    clear c3_a0
    have c4_a1 := cell_later hb4 c3_a1
    clear c3_a1
    have HDx := Lib.hid hdx
    clear hdx
    have okx := okGraph_dat okY HDx.out
    have HKx := Lib.hid hkx
    clear hkx
    go_wp2_with fail
    refine (graphText_impl_u x (datGraph y0) HDx.out _ (hp.later (BB4.trans (((Below.refl _ _).alloc (Nat.le_refl _) _).mono BB4.size)) (Nat.le_refl _)) ((H4x.below ((Below.refl _ _).alloc (Nat.le_refl _) _)).good okx)).mono ?_
    rintro e w5 ⟨rfl, hb5⟩
    have ha5 := (Below.refl w4.heap.size w4).alloc (Nat.le_refl _) (.cells #[.int .i64 x.n, .slice x.edgesA x.edgesN x.edgesC] 36)
    have hx5 : Below w4.heap.size w4 w5 := ha5.trans (hb5.mono ha5.size)
    have szz5 : w4.heap.size + 1 ≤ w5.heap.size := by have := hb5.size; simpa using this
    obtain ⟨hc5, hf5⟩ := bcell hb5
    have c5_x0 : w5.cell? ⟨w4.heap.size, 0, none⟩ = some (.int .i64 x.n) := by rw [hc5 _ _ (by simp)]; simp [go_sem]
    have c5_x1 : w5.cell? ⟨w4.heap.size, 1, none⟩ = some (.slice x.edgesA x.edgesN x.edgesC) := by rw [hc5 _ _ (by simp)]; simp [go_sem]
    clear hc5 hf5
    have BB5 := BB4.trans (hx5.mono BB4.size)
    have sz5 := hx5.size
    have H5x := H4x.below hx5
    clear H4x
    have c5_a0 := cell_later hx5 c4_a0
    clear c4_a0
    have c5_a1 := cell_later hx5 c4_a1
    clear c4_a1
    go_wp2_with fail
    go_region_held3 (fun w' => w'.cell? ⟨w.heap.size, 0, none⟩ = some (.int .i64 y0.n) ∧ w'.cell? ⟨w.heap.size, 1, none⟩ = some (.slice y0.edgesA y0.edgesN y0.edgesC) ∧ w'.cell? ⟨w4.heap.size, 0, none⟩ = some (.int .i64 x.n) ∧ w'.cell? ⟨w4.heap.size, 1, none⟩ = some (.slice x.edgesA x.edgesN x.edgesC) ∧ Below w5.heap.size w5 w') (first | exact keepd4 (by assumption) | exact keep4 (by assumption) (Nat.le_refl _) (by assumption) | exact ⟨c5_a0, c5_a1, c5_x0, c5_x1, (Below.refl _ _).drew⟩) (first | (go_at_call 19; refine (toGraph_k y0 _ (goodGraph_below g0 (BB5.trans ((tail4 (by assumption) : Below w5.heap.size w5 _).mono BB5.size)) (Nat.le_refl _)).2.1 hn0).mono ?_; rintro e wa ⟨t, rfl, hdt, Ht, hkt, hba⟩) | (go_at_call 21; refine (eqGraph_k x t (datGraph y0) (datGraph y0) HDx.out hdt _ ((H5x.below (tail4 (by assumption) : Below w5.heap.size w5 _)).good okx).2.1 (Ht.good (okGraph_dat okY hdt)).2.1).mono ?_; rintro e wb ⟨rfl, hbb⟩))
    have hb6 : Below w5.heap.size w5 _ := tail4 (by assumption)
    have BB6 := BB5.trans (hb6.mono BB5.size)
    have sz6 := hb6.size
    have H6x := H5x.below hb6
    clear H5x
    have c6_a0 := cell_later hb6 c5_a0
    clear c5_a0
    have c6_a1 := cell_later hb6 c5_a1
    clear c5_a1
    have c6_x0 := cell_later hb6 c5_x0
    clear c5_x0
    have c6_x1 := cell_later hb6 c5_x1
    clear c5_x1
    go_wp2
    go_ret
    exact ⟨rfl, BB6⟩
  · have HL := Lib.hid (leftB_no (left := 1048576) (n := bulkGraph y0) (by omega))
    go_enter Tryd.func5, Tryd.ntmps5
    go_wp2_with fail
    refine (szGraph_k y0 _ _ (goodGraph_below g0 hb0 (Nat.le_refl _)).2.1 (by omega) (by omega)).mono ?_
    rintro e w1 ⟨rfl, hb1⟩
    rw [HL.out]
    go_wp2
    go_ret
    exact ⟨rfl, hb0.trans (hb1.mono (by simp))⟩
end Go.Proofs.YtgkgbpgnbnledaaDoor

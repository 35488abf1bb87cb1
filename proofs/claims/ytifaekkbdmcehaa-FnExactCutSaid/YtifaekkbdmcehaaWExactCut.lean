/- FnExactCut: the walk of the law out of the contracts of what it calls. -/
import Derived.Test.YtifaekkbdmcehaaCut
import Derived.Test.YtifaekkbdmcehaaIntM
import Derived.Test.YtifaekkbdmcehaaGraphM
import Derived.Test.YtifaekkbdmcehaaKeep
namespace Go.Proofs.Ytifaekkbdmcehaa
open Go.RowKit
set_option linter.unusedVariables false in
set_option maxRecDepth 100000 in
set_option maxHeartbeats 3200000 in
theorem walk_FnExactCut (y0 : GraphR) (x1 : Int) (w : World) (g0 : goodGraph w y0) (g1 : In64 x1) :
    Calls Try.prog 10 #[.agg #[.int .i64 y0.n, .slice y0.edgesA y0.edgesN y0.edgesC], .int .i64 x1] w fun e w' => e = .returned (.bool true) ∧ Below w.heap.size w w' := by
  have hb0 := (Below.refl w.heap.size w).alloc (Nat.le_refl _) (.cells #[.int .i64 y0.n, .slice y0.edgesA y0.edgesN y0.edgesC] 31)
  by_cases hn0 : bulkGraph y0 ≤ 1048576
  · have HL := Lib.hid (leftB_yes (left := 1048576) (n := bulkGraph y0) (by omega))
    have okY := goodGraph_ok g0
    go_enter Try.func10, Try.ntmps10
    go_wp2_with fail
    refine (szGraph_u y0 _ _ (goodGraph_below g0 hb0 (Nat.le_refl _)) (by omega) (by omega)).mono ?_
    rintro e w1 ⟨rfl, hb1⟩
    have BB1 := hb0.trans (hb1.mono (by simp))
    have sz1 : w.heap.size + 1 ≤ w1.heap.size := by have := hb1.size; simpa using this
    obtain ⟨hc1, hf1⟩ := bcell hb1
    have c1_a0 : w1.cell? ⟨w.heap.size, 0, none⟩ = some (.int .i64 y0.n) := by rw [hc1 _ _ (by simp)]; simp [go_sem]
    have c1_a1 : w1.cell? ⟨w.heap.size, 1, none⟩ = some (.slice y0.edgesA y0.edgesN y0.edgesC) := by rw [hc1 _ _ (by simp)]; simp [go_sem]
    clear hc1 hf1
    rw [HL.out]
    go_wp2_with fail
    refine (toGraph_u y0 _ (goodGraph_below g0 BB1 (Nat.le_refl _)) hn0).mono ?_
    rintro e w2 ⟨u, rfl, hdu, H2u, hku, hb2⟩
    have BB2 := BB1.trans (hb2.mono BB1.size)
    have sz2 := hb2.size
    have c2_a0 := cell_later hb2 c1_a0
    clear c1_a0
    have c2_a1 := cell_later hb2 c1_a1
    clear c1_a1
    have HDu := Lib.hid hdu
    clear hdu
    have oku := okGraph_dat okY HDu.out
    have HKu := Lib.hid hku
    clear hku
    go_wp2_with fail
    refine (cut_spec_u u (datGraph y0) HDu.out x1 _ ((H2u).good oku) g1).mono ?_
    rintro e w3 ⟨Wa, Wn, Wc, rfl, H3W, hb3⟩
    have BB3 := BB2.trans (hb3.mono BB2.size)
    have sz3 := hb3.size
    have H3u := H2u.below hb3
    clear H2u
    have c3_a0 := cell_later hb3 c2_a0
    clear c2_a0
    have c3_a1 := cell_later hb3 c2_a1
    clear c2_a1
    go_wp2_with fail
    refine (toGraph_u y0 _ (goodGraph_below g0 BB3 (Nat.le_refl _)) hn0).mono ?_
    rintro e w4 ⟨x, rfl, hdx, H4x, hkx, hb4⟩
    have BB4 := BB3.trans (hb4.mono BB3.size)
    have sz4 := hb4.size
    have H4W := H3W.below hb4
    clear H3W
    have c4_a0 := cell_later hb4 c3_a0
    clear c3_a0
    have c4_a1 := cell_later hb4 c3_a1
    clear c3_a1
    have HDx := Lib.hid hdx
    clear hdx
    have okx := okGraph_dat okY HDx.out
    have HKx := Lib.hid hkx
    clear hkx
    go_wp2_with fail
    refine (cut_impl_u x (datGraph y0) HDx.out x1 _ ((H4x.below ((Below.refl _ _).alloc (Nat.le_refl _) _)).good okx) g1).mono ?_
    rintro e w5 ⟨Ga, Gn, Gc, rfl, H5G, hb5⟩
    have ha5 := (Below.refl w4.heap.size w4).alloc (Nat.le_refl _) (.cells #[.int .i64 x.n, .slice x.edgesA x.edgesN x.edgesC] 36)
    have hx5 : Below w4.heap.size w4 w5 := ha5.trans (hb5.mono ha5.size)
    have szz5 : w4.heap.size + 1 ≤ w5.heap.size := by have := hb5.size; simpa using this
    obtain ⟨hc5, hf5⟩ := bcell hb5
    have c5_x0 : w5.cell? ⟨w4.heap.size, 0, none⟩ = some (.int .i64 x.n) := by rw [hc5 _ _ (by simp)]; simp [go_sem]
    have c5_x1 : w5.cell? ⟨w4.heap.size, 1, none⟩ = some (.slice x.edgesA x.edgesN x.edgesC) := by rw [hc5 _ _ (by simp)]; simp [go_sem]
    clear hc5 hf5
    replace H5G := H5G.lo_le (lo' := w4.heap.size) (by simp)
    have BB5 := BB4.trans (hx5.mono BB4.size)
    have sz5 := hx5.size
    have H5W := H4W.below hx5
    clear H4W
    have H5x := H4x.below hx5
    clear H4x
    have c5_a0 := cell_later hx5 c4_a0
    clear c4_a0
    have c5_a1 := cell_later hx5 c4_a1
    clear c4_a1
    go_wp2_with fail
    refine (eqIntS_any _ _ _ _ _ _ _ _ _ H5G.rd H5W.rd).mono ?_
    rintro e w6 ⟨rfl, hb6⟩
    have BB6 := BB5.trans (hb6.mono BB5.size)
    have sz6 := hb6.size
    have H6W := H5W.below hb6
    clear H5W
    have H6x := H5x.below hb6
    clear H5x
    have H6G := H5G.below hb6
    clear H5G
    have c6_a0 := cell_later hb6 c5_a0
    clear c5_a0
    have c6_a1 := cell_later hb6 c5_a1
    clear c5_a1
    have c6_x0 := cell_later hb6 c5_x0
    clear c5_x0
    have c6_x1 := cell_later hb6 c5_x1
    clear c5_x1
    go_wp2_with fail
    go_region_held3 (fun w' => w'.cell? ⟨w.heap.size, 0, none⟩ = some (.int .i64 y0.n) ∧ w'.cell? ⟨w.heap.size, 1, none⟩ = some (.slice y0.edgesA y0.edgesN y0.edgesC) ∧ w'.cell? ⟨w4.heap.size, 0, none⟩ = some (.int .i64 x.n) ∧ w'.cell? ⟨w4.heap.size, 1, none⟩ = some (.slice x.edgesA x.edgesN x.edgesC) ∧ Below w6.heap.size w6 w') (first | exact keepd4 (by assumption) | exact keep4 (by assumption) (Nat.le_refl _) (by assumption) | exact ⟨c6_a0, c6_a1, c6_x0, c6_x1, (Below.refl _ _).drew⟩) (first | (go_at_call 20; refine (toGraph_u y0 _ (goodGraph_below g0 (BB6.trans ((tail4 (by assumption) : Below w6.heap.size w6 _).mono BB6.size)) (Nat.le_refl _)) hn0).mono ?_; rintro e wa ⟨t, rfl, hdt, Ht, hkt, hba⟩) | (go_at_call 22; refine (eqGraph_u x t (datGraph y0) (datGraph y0) HDx.out hdt _ ((H6x.below (tail4 (by assumption) : Below w6.heap.size w6 _)).good okx) (Ht.good (okGraph_dat okY hdt))).mono ?_; rintro e wb ⟨rfl, hbb⟩))
    have hb7 : Below w6.heap.size w6 _ := tail4 (by assumption)
    have BB7 := BB6.trans (hb7.mono BB6.size)
    have sz7 := hb7.size
    have H7W := H6W.below hb7
    clear H6W
    have H7x := H6x.below hb7
    clear H6x
    have H7G := H6G.below hb7
    clear H6G
    have c7_a0 := cell_later hb7 c6_a0
    clear c6_a0
    have c7_a1 := cell_later hb7 c6_a1
    clear c6_a1
    have c7_x0 := cell_later hb7 c6_x0
    clear c6_x0
    have c7_x1 := cell_later hb7 c6_x1
    clear c6_x1
    go_wp2_with fail
    refine (markGraph_u x _ _ _ _ H7x (by rw [HKx.out]; omega) (by omega) (by omega)).mono ?_
    rintro e w8 ⟨xm, rfl, hxm, H8x, hb8⟩
    have BB8 := BB7.trans (hb8.below (B := w.heap.size) (by omega) BB7.size)
    have sz8 := hb8.size
    have H8W := H7W.win hb8 (by omega)
    clear H7W
    have H8G := H7G.win hb8 (by omega)
    clear H7G
    have c8_a0 := cell_win hb8 c7_a0 (by omega)
    clear c7_a0
    have c8_a1 := cell_win hb8 c7_a1 (by omega)
    clear c7_a1
    have c8_x0 := cell_win hb8 c7_x0 (by omega)
    clear c7_x0
    have c8_x1 := cell_win hb8 c7_x1 (by omega)
    clear c7_x1
    clear hxm
    rw [HKx.out]
    go_wp2_with fail
    refine (eqIntS_any _ _ _ _ _ _ _ _ _ H8G.rd H8W.rd).mono ?_
    rintro e w9 ⟨rfl, hb9⟩
    have BB9 := BB8.trans (hb9.mono BB8.size)
    have sz9 := hb9.size
    have H9W := H8W.below hb9
    clear H8W
    have H9x := H8x.below hb9
    clear H8x
    have H9G := H8G.below hb9
    clear H8G
    have c9_a0 := cell_later hb9 c8_a0
    clear c8_a0
    have c9_a1 := cell_later hb9 c8_a1
    clear c8_a1
    have c9_x0 := cell_later hb9 c8_x0
    clear c8_x0
    have c9_x1 := cell_later hb9 c8_x1
    clear c8_x1
    have smG := H9G.small
    go_wp2_with fail
    refine (markIntS_any _ _ _ _ _ _ _ _ H9G (by omega) (by omega)).mono ?_
    rintro e w10 ⟨rfl, H10G, hb10⟩
    have BB10 := BB9.trans (hb10.below (B := w.heap.size) (by omega) BB9.size)
    have sz10 := hb10.size
    have H10W := H9W.win hb10 (by omega)
    clear H9W
    have c10_a0 := cell_win hb10 c9_a0 (by omega)
    clear c9_a0
    have c10_a1 := cell_win hb10 c9_a1 (by omega)
    clear c9_a1
    go_wp2_with fail
    refine (heldIntS_any _ _ _ _ _ H10G.rd smG (by omega) (by omega)).mono ?_
    rintro e w11 ⟨rfl, hb11⟩
    have BB11 := BB10.trans (hb11.mono BB10.size)
    have sz11 := hb11.size
    have H11W := H10W.below hb11
    clear H10W
    have H11G := H10G.below hb11
    clear H10G
    have c11_a0 := cell_later hb11 c10_a0
    clear c10_a0
    have c11_a1 := cell_later hb11 c10_a1
    clear c10_a1
    go_wp2_with fail
    refine (toGraph_u y0 _ (goodGraph_below g0 BB11 (Nat.le_refl _)) hn0).mono ?_
    rintro e w12 ⟨v, rfl, hdv, H12v, hkv, hb12⟩
    have BB12 := BB11.trans (hb12.mono BB11.size)
    have sz12 := hb12.size
    have H12W := H11W.below hb12
    clear H11W
    have H12G := H11G.below hb12
    clear H11G
    have c12_a0 := cell_later hb12 c11_a0
    clear c11_a0
    have c12_a1 := cell_later hb12 c11_a1
    clear c11_a1
    have HDv := Lib.hid hdv
    clear hdv
    have okv := okGraph_dat okY HDv.out
    have HKv := Lib.hid hkv
    clear hkv
    go_wp2_with fail
    refine (cut_impl_u v (datGraph y0) HDv.out x1 _ ((H12v).good okv) g1).mono ?_
    rintro e w13 ⟨Ka, Kn, Kc, rfl, H13K, hb13⟩
    have BB13 := BB12.trans (hb13.mono BB12.size)
    have sz13 := hb13.size
    have H13W := H12W.below hb13
    clear H12W
    have H13G := H12G.below hb13
    clear H12G
    have H13v := H12v.below hb13
    clear H12v
    have c13_a0 := cell_later hb13 c12_a0
    clear c12_a0
    have c13_a1 := cell_later hb13 c12_a1
    clear c12_a1
    go_wp2_with fail
    refine (eqIntS_any _ _ _ _ _ _ _ _ _ H13K.rd H13W.rd).mono ?_
    rintro e w14 ⟨rfl, hb14⟩
    have BB14 := BB13.trans (hb14.mono BB13.size)
    have sz14 := hb14.size
    have H14W := H13W.below hb14
    clear H13W
    have H14G := H13G.below hb14
    clear H13G
    have H14K := H13K.below hb14
    clear H13K
    have c14_a0 := cell_later hb14 c13_a0
    clear c13_a0
    have c14_a1 := cell_later hb14 c13_a1
    clear c13_a1
    go_wp2_with fail
    refine (heldIntS_any _ _ _ _ _ H14G.rd smG (by omega) (by omega)).mono ?_
    rintro e w15 ⟨rfl, hb15⟩
    have BB15 := BB14.trans (hb15.mono BB14.size)
    have sz15 := hb15.size
    have H15W := H14W.below hb15
    clear H14W
    have H15G := H14G.below hb15
    clear H14G
    have H15K := H14K.below hb15
    clear H14K
    have c15_a0 := cell_later hb15 c14_a0
    clear c14_a0
    have c15_a1 := cell_later hb15 c14_a1
    clear c14_a1
    go_wp2
    go_ret
    exact ⟨rfl, BB15⟩
  · have HL := Lib.hid (leftB_no (left := 1048576) (n := bulkGraph y0) (by omega))
    go_enter Try.func10, Try.ntmps10
    go_wp2_with fail
    refine (szGraph_u y0 _ _ (goodGraph_below g0 hb0 (Nat.le_refl _)) (by omega) (by omega)).mono ?_
    rintro e w1 ⟨rfl, hb1⟩
    rw [HL.out]
    go_wp2
    go_ret
    exact ⟨rfl, hb0.trans (hb1.mono (by simp))⟩
end Go.Proofs.Ytifaekkbdmcehaa

/- FnExactJoined: the walk of the law out of the contracts of what it calls. -/
import Derived.Test.YtifaekkbdmcehaaJoined
import Derived.Test.YtifaekkbdmcehaaShardSK
import Derived.Test.YtifaekkbdmcehaaGraphK
import Derived.Test.YtifaekkbdmcehaaKeep
import Derived.Test.YtifaekkbdmcehaaRow
namespace Go.Proofs.Ytifaekkbdmcehaa
open Go.RowKit
set_option linter.unusedVariables false in
set_option maxRecDepth 100000 in
set_option maxHeartbeats 6400000 in
theorem walk_FnExactJoined (x0 : Int) (a1 : Option Addr) (n1 c1 : Nat) (z1 : List ShardR) (w : World) (g0 : In64 x0) (r1 : Rd encShard 3 w a1 n1 c1 z1) (g1 : ∀ y ∈ z1, (goodShard w) y) :
    Calls Try.prog 12 #[.int .i64 x0, .slice a1 n1 c1] w fun e w' => e = .returned (.bool true) ∧ Below w.heap.size w w' := by
  by_cases hg0 : bulkShardS (⟨a1, n1, c1, z1⟩ : Row _) ≤ 1048576
  · have BB0 := Below.refl w.heap.size w
    have q1 : rdShardS w ⟨a1, n1, c1, z1⟩ := ⟨r1, fun y hy => goodShard_rd (g1 y hy)⟩
    have hn1 : bulkShardS (⟨a1, n1, c1, z1⟩ : Row _) ≤ 1048576 := by omega
    go_enter Try.func12, Try.ntmps12
    have HL0 := Lib.hid (leftB_yes (left := 1048576) (n := bulkShardS (⟨a1, n1, c1, z1⟩ : Row _)) (by omega))
    go_wp2_with fail
    refine (szShardS_k (⟨a1, n1, c1, z1⟩ : Row _) _ _ (rdShardS_below q1 BB0 (Nat.le_refl _)) (by omega) (by omega)).mono ?_
    rintro e w1 ⟨rfl, hb1⟩
    rw [HL0.out]
    have BB1 := BB0.trans (hb1.mono BB0.size)
    have sz1 := hb1.size
    go_wp2_with fail
    refine (toShardS_k (⟨a1, n1, c1, z1⟩ : Row _) _ (rdShardS_below q1 BB1 (Nat.le_refl _)) hn1).mono ?_
    rintro e w2 ⟨u1, rfl, hdu1, H2u1, hku1, hb2⟩
    have BB2 := BB1.trans (hb2.mono BB1.size)
    have sz2 := hb2.size
    have HDu1 := Lib.hid hdu1
    clear hdu1
    go_wp2_with fail
    refine (joined_spec_k x0 u1 (datShardS (⟨a1, n1, c1, z1⟩ : Row _)) HDu1.out _ H2u1.rd g0 (by rw [hku1]; exact hn1)).mono ?_
    rintro e w3 ⟨W, rfl, hdW, H3W, hkW, hb3⟩
    have BB3 := BB2.trans (hb3.mono BB2.size)
    have sz3 := hb3.size
    have H3u1 := H2u1.below hb3
    clear H2u1
    have HDW := Lib.hid hdW
    clear hdW
    have ha4 := ((Below.refl w3.heap.size w3).alloc (Nat.le_refl _) (.cells #[.int .i64 W.n, .slice W.edgesA W.edgesN W.edgesC] 36))
    have BP4 := BB3.trans (ha4.mono BB3.size)
    go_wp2_with fail
    refine (toShardS_k (⟨a1, n1, c1, z1⟩ : Row _) _ (rdShardS_below q1 BP4 (Nat.le_refl _)) hn1).mono ?_
    rintro e w4 ⟨x1, rfl, hdx1, H4x1, hkx1, hb4⟩
    have hx4 : Below w3.heap.size w3 w4 := ha4.trans (hb4.mono ha4.size)
    have szz4 : w3.heap.size + 1 ≤ w4.heap.size := by have := hb4.size; simp at this; omega
    obtain ⟨hc4, hf4⟩ := bcell hb4
    have c4_W_0 : w4.cell? ⟨w3.heap.size, 0, none⟩ = some (.int .i64 W.n) := by rw [hc4 _ _ (by simp)]; simp [go_sem]
    have c4_W_1 : w4.cell? ⟨w3.heap.size, 1, none⟩ = some (.slice W.edgesA W.edgesN W.edgesC) := by rw [hc4 _ _ (by simp)]; simp [go_sem]
    clear hc4 hf4
    have BB4 := BB3.trans (hx4.mono BB3.size)
    have sz4 := hx4.size
    have H4W := H3W.below hx4
    clear H3W
    replace H4x1 := H4x1.lo_le (lo' := w3.heap.size + 1) (by simp)
    have HDx1 := Lib.hid hdx1
    clear hdx1
    go_wp2_with fail
    refine (joined_impl_k x0 x1 (datShardS (⟨a1, n1, c1, z1⟩ : Row _)) HDx1.out _ H4x1.rd g0 (by rw [hkx1]; exact hn1)).mono ?_
    rintro e w5 ⟨G, rfl, hdG, H5G, hkG, hb5⟩
    have BB5 := BB4.trans (hb5.mono BB4.size)
    have sz5 := hb5.size
    have H5W := H4W.below hb5
    clear H4W
    have H5x1 := H4x1.below hb5
    clear H4x1
    have c5_W_0 := cell_later hb5 c4_W_0
    clear c4_W_0
    have c5_W_1 := cell_later hb5 c4_W_1
    clear c4_W_1
    have HDG := Lib.hid hdG
    clear hdG
    have hl6_W_0 := World.block_lt_of_cell? _ _ c5_W_0
    simp only at hl6_W_0
    have ha6 := ((Below.refl w5.heap.size w5).alloc (Nat.le_refl _) (.cells #[.int .i64 G.n, .slice G.edgesA G.edgesN G.edgesC] 36))
    have BP6 := BB5.trans (ha6.mono BB5.size)
    go_wp2_with fail
    refine (eqGraph_k G W _ _ HDG.out HDW.out _ (H5G.below ha6).rd (H5W.below ha6).rd).mono ?_
    rintro e w6 ⟨rfl, hb6⟩
    have hx6 : Below w5.heap.size w5 w6 := ha6.trans (hb6.mono ha6.size)
    have szz6 : w5.heap.size + 1 ≤ w6.heap.size := by have := hb6.size; simp at this; omega
    obtain ⟨hc6, hf6⟩ := bcell hb6
    have c6_G_0 : w6.cell? ⟨w5.heap.size, 0, none⟩ = some (.int .i64 G.n) := by rw [hc6 _ _ (by simp)]; simp [go_sem]
    have c6_G_1 : w6.cell? ⟨w5.heap.size, 1, none⟩ = some (.slice G.edgesA G.edgesN G.edgesC) := by rw [hc6 _ _ (by simp)]; simp [go_sem]
    clear hc6 hf6
    have BB6 := BB5.trans (hx6.mono BB5.size)
    have sz6 := hx6.size
    have H6W := H5W.below hx6
    clear H5W
    have H6x1 := H5x1.below hx6
    clear H5x1
    have H6G := H5G.below hx6
    clear H5G
    have c6_W_0 := cell_later hx6 c5_W_0
    clear c5_W_0
    have c6_W_1 := cell_later hx6 c5_W_1
    clear c5_W_1
    go_wp2_with fail
    refine (toShardS_k (⟨a1, n1, c1, z1⟩ : Row _) _ (rdShardS_below q1 BB6 (Nat.le_refl _)) hn1).mono ?_
    rintro e w7 ⟨t1, rfl, hdt1, H7t1, hkt1, hb7⟩
    have BB7 := BB6.trans (hb7.mono BB6.size)
    have sz7 := hb7.size
    have H7W := H6W.below hb7
    clear H6W
    have H7x1 := H6x1.below hb7
    clear H6x1
    have H7G := H6G.below hb7
    clear H6G
    have c7_W_0 := cell_later hb7 c6_W_0
    clear c6_W_0
    have c7_W_1 := cell_later hb7 c6_W_1
    clear c6_W_1
    have c7_G_0 := cell_later hb7 c6_G_0
    clear c6_G_0
    have c7_G_1 := cell_later hb7 c6_G_1
    clear c6_G_1
    have HDt1 := Lib.hid hdt1
    clear hdt1
    go_wp2_with fail
    refine (eqShardS_k x1 t1 _ _ HDx1.out HDt1.out _ H7x1.rd H7t1.rd).mono ?_
    rintro e w8 ⟨rfl, hb8⟩
    have BB8 := BB7.trans (hb8.mono BB7.size)
    have sz8 := hb8.size
    have H8W := H7W.below hb8
    clear H7W
    have H8x1 := H7x1.below hb8
    clear H7x1
    have H8G := H7G.below hb8
    clear H7G
    have H8t1 := H7t1.below hb8
    clear H7t1
    have c8_W_0 := cell_later hb8 c7_W_0
    clear c7_W_0
    have c8_W_1 := cell_later hb8 c7_W_1
    clear c7_W_1
    have c8_G_0 := cell_later hb8 c7_G_0
    clear c7_G_0
    have c8_G_1 := cell_later hb8 c7_G_1
    clear c7_G_1
    replace hkx1 : bulkShardS x1 ≤ 1048576 := by rw [hkx1]; exact hn1
    have cn1 := cntShardS_own H8x1 hkx1
    go_wp2_with fail
    refine (markShardS_k x1 (1) _ _ _ H8x1 hkx1 (by omega) (by omega)).mono ?_
    rintro e w9 ⟨rfl, HE9x1, hb9⟩
    have BB9 := BB8.trans (hb9.below (B := w.heap.size) (by omega) BB8.size)
    have sz9 := hb9.size
    have H9W := H8W.win hb9 (by omega)
    clear H8W
    have H9G := H8G.win hb9 (by omega)
    clear H8G
    have c9_W_0 := cell_win hb9 c8_W_0 (by omega)
    clear c8_W_0
    have c9_W_1 := cell_win hb9 c8_W_1 (by omega)
    clear c8_W_1
    have c9_G_0 := cell_win hb9 c8_G_0 (by omega)
    clear c8_G_0
    have c9_G_1 := cell_win hb9 c8_G_1 (by omega)
    clear c8_G_1
    go_wp2_with fail
    refine (eqGraph_k G W _ _ HDG.out HDW.out _ H9G.rd H9W.rd).mono ?_
    rintro e w10 ⟨rfl, hb10⟩
    have BB10 := BB9.trans (hb10.mono BB9.size)
    have sz10 := hb10.size
    have H10W := H9W.below hb10
    clear H9W
    have H10G := H9G.below hb10
    clear H9G
    have c10_W_0 := cell_later hb10 c9_W_0
    clear c9_W_0
    have c10_W_1 := cell_later hb10 c9_W_1
    clear c9_W_1
    have c10_G_0 := cell_later hb10 c9_G_0
    clear c9_G_0
    have c10_G_1 := cell_later hb10 c9_G_1
    clear c9_G_1
    go_wp2_with fail
    refine (markGraph_k G (1) _ _ _ H10G hkG (by omega) (by omega)).mono ?_
    rintro e w11 ⟨rfl, HE11G, hb11⟩
    have BB11 := BB10.trans (hb11.below (B := w.heap.size) (by omega) BB10.size)
    have sz11 := hb11.size
    have H11W := H10W.win hb11 (by omega)
    clear H10W
    have c11_W_0 := cell_win hb11 c10_W_0 (by omega)
    clear c10_W_0
    have c11_W_1 := cell_win hb11 c10_W_1 (by omega)
    clear c10_W_1
    have c11_G_0 := cell_win hb11 c10_G_0 (by omega)
    clear c10_G_0
    have c11_G_1 := cell_win hb11 c10_G_1 (by omega)
    clear c10_G_1
    go_wp2_with fail
    refine (heldGraph_k G 1 _ HE11G (by omega) (by omega)).mono ?_
    rintro e w12 ⟨rfl, hb12⟩
    have BB12 := BB11.trans (hb12.mono BB11.size)
    have sz12 := hb12.size
    have H12W := H11W.below hb12
    clear H11W
    have H12G := HE11G.below hb12
    clear HE11G
    have c12_W_0 := cell_later hb12 c11_W_0
    clear c11_W_0
    have c12_W_1 := cell_later hb12 c11_W_1
    clear c11_W_1
    have c12_G_0 := cell_later hb12 c11_G_0
    clear c11_G_0
    have c12_G_1 := cell_later hb12 c11_G_1
    clear c11_G_1
    go_wp2_with fail
    refine (toShardS_k (⟨a1, n1, c1, z1⟩ : Row _) _ (rdShardS_below q1 BB12 (Nat.le_refl _)) hn1).mono ?_
    rintro e w13 ⟨v1, rfl, hdv1, H13v1, hkv1, hb13⟩
    have BB13 := BB12.trans (hb13.mono BB12.size)
    have sz13 := hb13.size
    have H13W := H12W.below hb13
    clear H12W
    have H13G := H12G.below hb13
    clear H12G
    have c13_W_0 := cell_later hb13 c12_W_0
    clear c12_W_0
    have c13_W_1 := cell_later hb13 c12_W_1
    clear c12_W_1
    have c13_G_0 := cell_later hb13 c12_G_0
    clear c12_G_0
    have c13_G_1 := cell_later hb13 c12_G_1
    clear c12_G_1
    have HDv1 := Lib.hid hdv1
    clear hdv1
    go_wp2_with fail
    refine (joined_impl_k x0 v1 (datShardS (⟨a1, n1, c1, z1⟩ : Row _)) HDv1.out _ H13v1.rd g0 (by rw [hkv1]; exact hn1)).mono ?_
    rintro e w14 ⟨K, rfl, hdK, H14K, hkK, hb14⟩
    have BB14 := BB13.trans (hb14.mono BB13.size)
    have sz14 := hb14.size
    have H14W := H13W.below hb14
    clear H13W
    have H14G := H13G.below hb14
    clear H13G
    have H14v1 := H13v1.below hb14
    clear H13v1
    have c14_W_0 := cell_later hb14 c13_W_0
    clear c13_W_0
    have c14_W_1 := cell_later hb14 c13_W_1
    clear c13_W_1
    have c14_G_0 := cell_later hb14 c13_G_0
    clear c13_G_0
    have c14_G_1 := cell_later hb14 c13_G_1
    clear c13_G_1
    have HDK := Lib.hid hdK
    clear hdK
    have hl15_W_0 := World.block_lt_of_cell? _ _ c14_W_0
    simp only at hl15_W_0
    have hl15_G_0 := World.block_lt_of_cell? _ _ c14_G_0
    simp only at hl15_G_0
    have ha15 := ((Below.refl w14.heap.size w14).alloc (Nat.le_refl _) (.cells #[.int .i64 K.n, .slice K.edgesA K.edgesN K.edgesC] 36))
    have BP15 := BB14.trans (ha15.mono BB14.size)
    go_wp2_with fail
    refine (eqGraph_k K W _ _ HDK.out HDW.out _ (H14K.below ha15).rd (H14W.below ha15).rd).mono ?_
    rintro e w15 ⟨rfl, hb15⟩
    have hx15 : Below w14.heap.size w14 w15 := ha15.trans (hb15.mono ha15.size)
    have szz15 : w14.heap.size + 1 ≤ w15.heap.size := by have := hb15.size; simp at this; omega
    obtain ⟨hc15, hf15⟩ := bcell hb15
    have c15_K_0 : w15.cell? ⟨w14.heap.size, 0, none⟩ = some (.int .i64 K.n) := by rw [hc15 _ _ (by simp)]; simp [go_sem]
    have c15_K_1 : w15.cell? ⟨w14.heap.size, 1, none⟩ = some (.slice K.edgesA K.edgesN K.edgesC) := by rw [hc15 _ _ (by simp)]; simp [go_sem]
    clear hc15 hf15
    have BB15 := BB14.trans (hx15.mono BB14.size)
    have sz15 := hx15.size
    have H15W := H14W.below hx15
    clear H14W
    have H15G := H14G.below hx15
    clear H14G
    have H15K := H14K.below hx15
    clear H14K
    have c15_W_0 := cell_later hx15 c14_W_0
    clear c14_W_0
    have c15_W_1 := cell_later hx15 c14_W_1
    clear c14_W_1
    have c15_G_0 := cell_later hx15 c14_G_0
    clear c14_G_0
    have c15_G_1 := cell_later hx15 c14_G_1
    clear c14_G_1
    go_wp2_with fail
    refine (heldGraph_k G 1 _ H15G (by omega) (by omega)).mono ?_
    rintro e w16 ⟨rfl, hb16⟩
    have BB16 := BB15.trans (hb16.mono BB15.size)
    have sz16 := hb16.size
    have H16W := H15W.below hb16
    clear H15W
    have H16G := H15G.below hb16
    clear H15G
    have c16_W_0 := cell_later hb16 c15_W_0
    clear c15_W_0
    have c16_W_1 := cell_later hb16 c15_W_1
    clear c15_W_1
    have c16_G_0 := cell_later hb16 c15_G_0
    clear c15_G_0
    have c16_G_1 := cell_later hb16 c15_G_1
    clear c15_G_1
    go_wp2
    go_ret
    exact ⟨rfl, BB16⟩
  · have BB0 := Below.refl w.heap.size w
    have q1 : rdShardS w ⟨a1, n1, c1, z1⟩ := ⟨r1, fun y hy => goodShard_rd (g1 y hy)⟩
    go_enter Try.func12, Try.ntmps12
    have HL0 := Lib.hid (leftB_no (left := 1048576) (n := bulkShardS (⟨a1, n1, c1, z1⟩ : Row _)) (by omega))
    go_wp2_with fail
    refine (szShardS_k (⟨a1, n1, c1, z1⟩ : Row _) _ _ (rdShardS_below q1 BB0 (Nat.le_refl _)) (by omega) (by omega)).mono ?_
    rintro e w1 ⟨rfl, hb1⟩
    rw [HL0.out]
    have BB1 := BB0.trans (hb1.mono BB0.size)
    have sz1 := hb1.size
    go_wp2
    go_ret
    exact ⟨rfl, BB1⟩
end Go.Proofs.Ytifaekkbdmcehaa

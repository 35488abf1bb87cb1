/- FnExactWithVals: the walk of the law out of the contracts of what it calls. -/
import Derived.Test.YtkgalkaafocnjaaWithVals
import Derived.Test.YtkgalkaafocnjaaShardK
import Derived.Test.YtkgalkaafocnjaaIntSK
import Derived.Test.YtkgalkaafocnjaaKeep
import Derived.Test.YtkgalkaafocnjaaRow
namespace Go.Proofs.Ytkgalkaafocnjaa
open Go.RowKit
set_option linter.unusedVariables false in
set_option maxRecDepth 100000 in
set_option maxHeartbeats 6400000 in
theorem walk_FnExactWithVals (y0 : ShardR) (a1 : Option Addr) (n1 c1 : Nat) (z1 : List Int) (w : World) (g0 : goodShard w y0) (r1 : Rd (encI .i64) 1 w a1 n1 c1 z1) (g1 : ∀ y ∈ z1, In64 y) :
    Calls Try.prog 14 #[.agg #[.int .i64 y0.lo, .int .i64 y0.hi, .slice y0.edgesA y0.edgesN y0.edgesC], .slice a1 n1 c1] w fun e w' => e = .returned (.bool true) ∧ Below w.heap.size w w' := by
  by_cases hg0 : n1 ≤ 1048576
  · by_cases hg1 : bulkShard y0 ≤ 1048576
    · have BB0 := Below.refl w.heap.size w
      have okY0 := goodShard_ok g0
      have q1 : rdIntS w ⟨a1, n1, c1, z1⟩ := r1
      have hn0 : bulkShard y0 ≤ 1048576 := by omega
      have hn1 : bulkIntS (⟨a1, n1, c1, z1⟩ : Row _) ≤ 1048576 := hg0
      go_enter Try.func14, Try.ntmps14
      have HL0 := Lib.hid (leftB_yes (left := 1048576) (n := bulkShard y0) (by omega))
      have ha1 := ((Below.refl w.heap.size w).alloc (Nat.le_refl _) (.cells #[.int .i64 y0.lo, .int .i64 y0.hi, .slice y0.edgesA y0.edgesN y0.edgesC] 59))
      have BP1 := BB0.trans (ha1.mono BB0.size)
      go_wp2_with fail
      refine (szShard_k y0 _ _ (rdShard_below (goodShard_rd g0) BP1 (Nat.le_refl _)) (by omega) (by omega)).mono ?_
      rintro e w1 ⟨rfl, hb1⟩
      rw [HL0.out]
      have hx1 : Below w.heap.size w w1 := ha1.trans (hb1.mono ha1.size)
      have szz1 : w.heap.size + 1 ≤ w1.heap.size := by have := hb1.size; simp at this; omega
      obtain ⟨hc1, hf1⟩ := bcell hb1
      have c1_a0_0 : w1.cell? ⟨w.heap.size, 0, none⟩ = some (.int .i64 y0.lo) := by rw [hc1 _ _ (by simp)]; simp [go_sem]
      have c1_a0_1 : w1.cell? ⟨w.heap.size, 1, none⟩ = some (.int .i64 y0.hi) := by rw [hc1 _ _ (by simp)]; simp [go_sem]
      have c1_a0_2 : w1.cell? ⟨w.heap.size, 2, none⟩ = some (.slice y0.edgesA y0.edgesN y0.edgesC) := by rw [hc1 _ _ (by simp)]; simp [go_sem]
      clear hc1 hf1
      have BB1 := BB0.trans (hx1.mono BB0.size)
      have sz1 := hx1.size
      go_wp2_with fail
      refine (toShard_k y0 _ (rdShard_below (goodShard_rd g0) BB1 (Nat.le_refl _)) hn0).mono ?_
      rintro e w2 ⟨u0, rfl, hdu0, H2u0, hku0, hb2⟩
      have BB2 := BB1.trans (hb2.mono BB1.size)
      have sz2 := hb2.size
      have c2_a0_0 := cell_later hb2 c1_a0_0
      clear c1_a0_0
      have c2_a0_1 := cell_later hb2 c1_a0_1
      clear c1_a0_1
      have c2_a0_2 := cell_later hb2 c1_a0_2
      clear c1_a0_2
      have HDu0 := Lib.hid hdu0
      clear hdu0
      have oku0 := okShard_dat okY0 HDu0.out
      go_wp2_with fail
      refine (toIntS_k (⟨a1, n1, c1, z1⟩ : Row _) _ (rdIntS_below q1 BB2 (Nat.le_refl _)) hn1).mono ?_
      rintro e w3 ⟨u1, rfl, hdu1, H3u1, hku1, hb3⟩
      have BB3 := BB2.trans (hb3.mono BB2.size)
      have sz3 := hb3.size
      have H3u0 := H2u0.below hb3
      clear H2u0
      have c3_a0_0 := cell_later hb3 c2_a0_0
      clear c2_a0_0
      have c3_a0_1 := cell_later hb3 c2_a0_1
      clear c2_a0_1
      have c3_a0_2 := cell_later hb3 c2_a0_2
      clear c2_a0_2
      have HDu1 := Lib.hid hdu1
      clear hdu1
      go_wp2_with fail
      refine (withVals_spec_k u0 (datShard y0) HDu0.out u1 (datIntS (⟨a1, n1, c1, z1⟩ : Row _)) HDu1.out _ (H3u0.good oku0) H3u1.rd (by rw [hku0]; exact hn0)).mono ?_
      rintro e w4 ⟨W, rfl, hdW, H4W, hkW, hb4⟩
      have BB4 := BB3.trans (hb4.mono BB3.size)
      have sz4 := hb4.size
      have H4u0 := H3u0.below hb4
      clear H3u0
      have H4u1 := H3u1.below hb4
      clear H3u1
      have c4_a0_0 := cell_later hb4 c3_a0_0
      clear c3_a0_0
      have c4_a0_1 := cell_later hb4 c3_a0_1
      clear c3_a0_1
      have c4_a0_2 := cell_later hb4 c3_a0_2
      clear c3_a0_2
      have HDW := Lib.hid hdW
      clear hdW
      have hl5_a0_0 := World.block_lt_of_cell? _ _ c4_a0_0
      simp only at hl5_a0_0
      have ha5 := ((Below.refl w4.heap.size w4).alloc (Nat.le_refl _) (.cells #[.int .i64 W.lo, .int .i64 W.hi, .slice W.edgesA W.edgesN W.edgesC] 64))
      have BP5 := BB4.trans (ha5.mono BB4.size)
      go_wp2_with fail
      refine (toShard_k y0 _ (rdShard_below (goodShard_rd g0) BP5 (Nat.le_refl _)) hn0).mono ?_
      rintro e w5 ⟨x0, rfl, hdx0, H5x0, hkx0, hb5⟩
      have hx5 : Below w4.heap.size w4 w5 := ha5.trans (hb5.mono ha5.size)
      have szz5 : w4.heap.size + 1 ≤ w5.heap.size := by have := hb5.size; simp at this; omega
      obtain ⟨hc5, hf5⟩ := bcell hb5
      have c5_W_0 : w5.cell? ⟨w4.heap.size, 0, none⟩ = some (.int .i64 W.lo) := by rw [hc5 _ _ (by simp)]; simp [go_sem]
      have c5_W_1 : w5.cell? ⟨w4.heap.size, 1, none⟩ = some (.int .i64 W.hi) := by rw [hc5 _ _ (by simp)]; simp [go_sem]
      have c5_W_2 : w5.cell? ⟨w4.heap.size, 2, none⟩ = some (.slice W.edgesA W.edgesN W.edgesC) := by rw [hc5 _ _ (by simp)]; simp [go_sem]
      clear hc5 hf5
      have BB5 := BB4.trans (hx5.mono BB4.size)
      have sz5 := hx5.size
      have H5W := H4W.below hx5
      clear H4W
      have c5_a0_0 := cell_later hx5 c4_a0_0
      clear c4_a0_0
      have c5_a0_1 := cell_later hx5 c4_a0_1
      clear c4_a0_1
      have c5_a0_2 := cell_later hx5 c4_a0_2
      clear c4_a0_2
      replace H5x0 := H5x0.lo_le (lo' := w4.heap.size + 1) (by simp)
      have HDx0 := Lib.hid hdx0
      clear hdx0
      have okx0 := okShard_dat okY0 HDx0.out
      have hl6_a0_0 := World.block_lt_of_cell? _ _ c5_a0_0
      simp only at hl6_a0_0
      have hl6_W_0 := World.block_lt_of_cell? _ _ c5_W_0
      simp only at hl6_W_0
      have ha6 := ((Below.refl w5.heap.size w5).alloc (Nat.le_refl _) (.cells #[.int .i64 x0.lo, .int .i64 x0.hi, .slice x0.edgesA x0.edgesN x0.edgesC] 64))
      have BP6 := BB5.trans (ha6.mono BB5.size)
      go_wp2_with fail
      refine (toIntS_k (⟨a1, n1, c1, z1⟩ : Row _) _ (rdIntS_below q1 BP6 (Nat.le_refl _)) hn1).mono ?_
      rintro e w6 ⟨x1, rfl, hdx1, H6x1, hkx1, hb6⟩
      have hx6 : Below w5.heap.size w5 w6 := ha6.trans (hb6.mono ha6.size)
      have szz6 : w5.heap.size + 1 ≤ w6.heap.size := by have := hb6.size; simp at this; omega
      obtain ⟨hc6, hf6⟩ := bcell hb6
      have c6_x0_0 : w6.cell? ⟨w5.heap.size, 0, none⟩ = some (.int .i64 x0.lo) := by rw [hc6 _ _ (by simp)]; simp [go_sem]
      have c6_x0_1 : w6.cell? ⟨w5.heap.size, 1, none⟩ = some (.int .i64 x0.hi) := by rw [hc6 _ _ (by simp)]; simp [go_sem]
      have c6_x0_2 : w6.cell? ⟨w5.heap.size, 2, none⟩ = some (.slice x0.edgesA x0.edgesN x0.edgesC) := by rw [hc6 _ _ (by simp)]; simp [go_sem]
      clear hc6 hf6
      have BB6 := BB5.trans (hx6.mono BB5.size)
      have sz6 := hx6.size
      have H6W := H5W.below hx6
      clear H5W
      have H6x0 := H5x0.below hx6
      clear H5x0
      have c6_a0_0 := cell_later hx6 c5_a0_0
      clear c5_a0_0
      have c6_a0_1 := cell_later hx6 c5_a0_1
      clear c5_a0_1
      have c6_a0_2 := cell_later hx6 c5_a0_2
      clear c5_a0_2
      have c6_W_0 := cell_later hx6 c5_W_0
      clear c5_W_0
      have c6_W_1 := cell_later hx6 c5_W_1
      clear c5_W_1
      have c6_W_2 := cell_later hx6 c5_W_2
      clear c5_W_2
      replace H6x1 := H6x1.lo_le (lo' := w5.heap.size + 1) (by simp)
      have HDx1 := Lib.hid hdx1
      clear hdx1
      go_wp2_with fail
      refine (withVals_impl_k x0 (datShard y0) HDx0.out x1 (datIntS (⟨a1, n1, c1, z1⟩ : Row _)) HDx1.out _ (H6x0.good okx0) H6x1.rd (by rw [hkx0]; exact hn0)).mono ?_
      rintro e w7 ⟨G, rfl, hdG, H7G, hkG, hb7⟩
      have BB7 := BB6.trans (hb7.mono BB6.size)
      have sz7 := hb7.size
      have H7W := H6W.below hb7
      clear H6W
      have H7x0 := H6x0.below hb7
      clear H6x0
      have H7x1 := H6x1.below hb7
      clear H6x1
      have c7_a0_0 := cell_later hb7 c6_a0_0
      clear c6_a0_0
      have c7_a0_1 := cell_later hb7 c6_a0_1
      clear c6_a0_1
      have c7_a0_2 := cell_later hb7 c6_a0_2
      clear c6_a0_2
      have c7_W_0 := cell_later hb7 c6_W_0
      clear c6_W_0
      have c7_W_1 := cell_later hb7 c6_W_1
      clear c6_W_1
      have c7_W_2 := cell_later hb7 c6_W_2
      clear c6_W_2
      have c7_x0_0 := cell_later hb7 c6_x0_0
      clear c6_x0_0
      have c7_x0_1 := cell_later hb7 c6_x0_1
      clear c6_x0_1
      have c7_x0_2 := cell_later hb7 c6_x0_2
      clear c6_x0_2
      have HDG := Lib.hid hdG
      clear hdG
      have hl8_a0_0 := World.block_lt_of_cell? _ _ c7_a0_0
      simp only at hl8_a0_0
      have hl8_W_0 := World.block_lt_of_cell? _ _ c7_W_0
      simp only at hl8_W_0
      have hl8_x0_0 := World.block_lt_of_cell? _ _ c7_x0_0
      simp only at hl8_x0_0
      have ha8 := ((Below.refl w7.heap.size w7).alloc (Nat.le_refl _) (.cells #[.int .i64 G.lo, .int .i64 G.hi, .slice G.edgesA G.edgesN G.edgesC] 64))
      have BP8 := BB7.trans (ha8.mono BB7.size)
      go_wp2_with fail
      refine (eqShard_k G W _ _ HDG.out HDW.out _ (H7G.below ha8).rd (H7W.below ha8).rd).mono ?_
      rintro e w8 ⟨rfl, hb8⟩
      have hx8 : Below w7.heap.size w7 w8 := ha8.trans (hb8.mono ha8.size)
      have szz8 : w7.heap.size + 1 ≤ w8.heap.size := by have := hb8.size; simp at this; omega
      obtain ⟨hc8, hf8⟩ := bcell hb8
      have c8_G_0 : w8.cell? ⟨w7.heap.size, 0, none⟩ = some (.int .i64 G.lo) := by rw [hc8 _ _ (by simp)]; simp [go_sem]
      have c8_G_1 : w8.cell? ⟨w7.heap.size, 1, none⟩ = some (.int .i64 G.hi) := by rw [hc8 _ _ (by simp)]; simp [go_sem]
      have c8_G_2 : w8.cell? ⟨w7.heap.size, 2, none⟩ = some (.slice G.edgesA G.edgesN G.edgesC) := by rw [hc8 _ _ (by simp)]; simp [go_sem]
      clear hc8 hf8
      have BB8 := BB7.trans (hx8.mono BB7.size)
      have sz8 := hx8.size
      have H8W := H7W.below hx8
      clear H7W
      have H8x0 := H7x0.below hx8
      clear H7x0
      have H8x1 := H7x1.below hx8
      clear H7x1
      have H8G := H7G.below hx8
      clear H7G
      have c8_a0_0 := cell_later hx8 c7_a0_0
      clear c7_a0_0
      have c8_a0_1 := cell_later hx8 c7_a0_1
      clear c7_a0_1
      have c8_a0_2 := cell_later hx8 c7_a0_2
      clear c7_a0_2
      have c8_W_0 := cell_later hx8 c7_W_0
      clear c7_W_0
      have c8_W_1 := cell_later hx8 c7_W_1
      clear c7_W_1
      have c8_W_2 := cell_later hx8 c7_W_2
      clear c7_W_2
      have c8_x0_0 := cell_later hx8 c7_x0_0
      clear c7_x0_0
      have c8_x0_1 := cell_later hx8 c7_x0_1
      clear c7_x0_1
      have c8_x0_2 := cell_later hx8 c7_x0_2
      clear c7_x0_2
      go_wp2_with fail
      go_region_held3 (fun w' => w'.cell? ⟨w.heap.size, 0, none⟩ = some (.int .i64 y0.lo) ∧ w'.cell? ⟨w.heap.size, 1, none⟩ = some (.int .i64 y0.hi) ∧ w'.cell? ⟨w.heap.size, 2, none⟩ = some (.slice y0.edgesA y0.edgesN y0.edgesC) ∧ w'.cell? ⟨w5.heap.size, 0, none⟩ = some (.int .i64 x0.lo) ∧ w'.cell? ⟨w5.heap.size, 1, none⟩ = some (.int .i64 x0.hi) ∧ w'.cell? ⟨w5.heap.size, 2, none⟩ = some (.slice x0.edgesA x0.edgesN x0.edgesC) ∧ Below w8.heap.size w8 w') (first | exact keepd6 (by assumption) | exact keep6 (by assumption) (Nat.le_refl _) (by assumption) | exact ⟨c8_a0_0, c8_a0_1, c8_a0_2, c8_x0_0, c8_x0_1, c8_x0_2, (Below.refl _ _).drew⟩) (first | (go_at_call 51; refine (toShard_k y0 _ (rdShard_below (goodShard_rd g0) (BB8.trans ((tail6 (by assumption) : Below w8.heap.size w8 _).mono BB8.size)) (Nat.le_refl _)) hn0).mono ?_; rintro e wa ⟨t, rfl, hdt, Ht, hkt, hba⟩) | (go_at_call 53; refine (eqShard_k x0 t _ _ HDx0.out hdt _ (H8x0.below (tail6 (by assumption) : Below w8.heap.size w8 _)).rd Ht.rd).mono ?_; rintro e wb ⟨rfl, hbb⟩))
      have hb9 : Below w8.heap.size w8 _ := tail6 (by assumption)
      have BB9 := BB8.trans (hb9.mono BB8.size)
      have sz9 := hb9.size
      have H9W := H8W.below hb9
      clear H8W
      have H9x0 := H8x0.below hb9
      clear H8x0
      have H9x1 := H8x1.below hb9
      clear H8x1
      have H9G := H8G.below hb9
      clear H8G
      have c9_a0_0 := cell_later hb9 c8_a0_0
      clear c8_a0_0
      have c9_a0_1 := cell_later hb9 c8_a0_1
      clear c8_a0_1
      have c9_a0_2 := cell_later hb9 c8_a0_2
      clear c8_a0_2
      have c9_W_0 := cell_later hb9 c8_W_0
      clear c8_W_0
      have c9_W_1 := cell_later hb9 c8_W_1
      clear c8_W_1
      have c9_W_2 := cell_later hb9 c8_W_2
      clear c8_W_2
      have c9_x0_0 := cell_later hb9 c8_x0_0
      clear c8_x0_0
      have c9_x0_1 := cell_later hb9 c8_x0_1
      clear c8_x0_1
      have c9_x0_2 := cell_later hb9 c8_x0_2
      clear c8_x0_2
      have c9_G_0 := cell_later hb9 c8_G_0
      clear c8_G_0
      have c9_G_1 := cell_later hb9 c8_G_1
      clear c8_G_1
      have c9_G_2 := cell_later hb9 c8_G_2
      clear c8_G_2
      skip
      go_wp2_with fail
      refine (toIntS_k (⟨a1, n1, c1, z1⟩ : Row _) _ (rdIntS_below q1 BB9 (Nat.le_refl _)) hn1).mono ?_
      rintro e w10 ⟨t1, rfl, hdt1, H10t1, hkt1, hb10⟩
      have BB10 := BB9.trans (hb10.mono BB9.size)
      have sz10 := hb10.size
      have H10W := H9W.below hb10
      clear H9W
      have H10x0 := H9x0.below hb10
      clear H9x0
      have H10x1 := H9x1.below hb10
      clear H9x1
      have H10G := H9G.below hb10
      clear H9G
      have c10_a0_0 := cell_later hb10 c9_a0_0
      clear c9_a0_0
      have c10_a0_1 := cell_later hb10 c9_a0_1
      clear c9_a0_1
      have c10_a0_2 := cell_later hb10 c9_a0_2
      clear c9_a0_2
      have c10_W_0 := cell_later hb10 c9_W_0
      clear c9_W_0
      have c10_W_1 := cell_later hb10 c9_W_1
      clear c9_W_1
      have c10_W_2 := cell_later hb10 c9_W_2
      clear c9_W_2
      have c10_x0_0 := cell_later hb10 c9_x0_0
      clear c9_x0_0
      have c10_x0_1 := cell_later hb10 c9_x0_1
      clear c9_x0_1
      have c10_x0_2 := cell_later hb10 c9_x0_2
      clear c9_x0_2
      have c10_G_0 := cell_later hb10 c9_G_0
      clear c9_G_0
      have c10_G_1 := cell_later hb10 c9_G_1
      clear c9_G_1
      have c10_G_2 := cell_later hb10 c9_G_2
      clear c9_G_2
      have HDt1 := Lib.hid hdt1
      clear hdt1
      go_wp2_with fail
      refine (eqIntS_k x1 t1 _ _ HDx1.out HDt1.out _ H10x1.rd H10t1.rd).mono ?_
      rintro e w11 ⟨rfl, hb11⟩
      have BB11 := BB10.trans (hb11.mono BB10.size)
      have sz11 := hb11.size
      have H11W := H10W.below hb11
      clear H10W
      have H11x0 := H10x0.below hb11
      clear H10x0
      have H11x1 := H10x1.below hb11
      clear H10x1
      have H11G := H10G.below hb11
      clear H10G
      have H11t1 := H10t1.below hb11
      clear H10t1
      have c11_a0_0 := cell_later hb11 c10_a0_0
      clear c10_a0_0
      have c11_a0_1 := cell_later hb11 c10_a0_1
      clear c10_a0_1
      have c11_a0_2 := cell_later hb11 c10_a0_2
      clear c10_a0_2
      have c11_W_0 := cell_later hb11 c10_W_0
      clear c10_W_0
      have c11_W_1 := cell_later hb11 c10_W_1
      clear c10_W_1
      have c11_W_2 := cell_later hb11 c10_W_2
      clear c10_W_2
      have c11_x0_0 := cell_later hb11 c10_x0_0
      clear c10_x0_0
      have c11_x0_1 := cell_later hb11 c10_x0_1
      clear c10_x0_1
      have c11_x0_2 := cell_later hb11 c10_x0_2
      clear c10_x0_2
      have c11_G_0 := cell_later hb11 c10_G_0
      clear c10_G_0
      have c11_G_1 := cell_later hb11 c10_G_1
      clear c10_G_1
      have c11_G_2 := cell_later hb11 c10_G_2
      clear c10_G_2
      replace hkx0 : bulkShard x0 ≤ 1048576 := by rw [hkx0]; exact hn0
      have cn0 := cntShard_own H11x0 hkx0
      replace hkx1 : bulkIntS x1 ≤ 1048576 := by rw [hkx1]; exact hn1
      have cn1 := cntIntS_own H11x1 hkx1
      go_wp2_with fail
      refine (markShard_k x0 (1) _ _ _ H11x0 hkx0 (by omega) (by omega)).mono ?_
      rintro e w12 ⟨rfl, HE12x0, hb12⟩
      have BB12 := BB11.trans (hb12.below (B := w.heap.size) (by omega) BB11.size)
      have sz12 := hb12.size
      have H12W := H11W.win hb12 (by omega)
      clear H11W
      have H12x1 := H11x1.win hb12 (by omega)
      clear H11x1
      have H12G := H11G.win hb12 (by omega)
      clear H11G
      have c12_a0_0 := cell_win hb12 c11_a0_0 (by omega)
      clear c11_a0_0
      have c12_a0_1 := cell_win hb12 c11_a0_1 (by omega)
      clear c11_a0_1
      have c12_a0_2 := cell_win hb12 c11_a0_2 (by omega)
      clear c11_a0_2
      have c12_W_0 := cell_win hb12 c11_W_0 (by omega)
      clear c11_W_0
      have c12_W_1 := cell_win hb12 c11_W_1 (by omega)
      clear c11_W_1
      have c12_W_2 := cell_win hb12 c11_W_2 (by omega)
      clear c11_W_2
      have c12_x0_0 := cell_win hb12 c11_x0_0 (by omega)
      clear c11_x0_0
      have c12_x0_1 := cell_win hb12 c11_x0_1 (by omega)
      clear c11_x0_1
      have c12_x0_2 := cell_win hb12 c11_x0_2 (by omega)
      clear c11_x0_2
      have c12_G_0 := cell_win hb12 c11_G_0 (by omega)
      clear c11_G_0
      have c12_G_1 := cell_win hb12 c11_G_1 (by omega)
      clear c11_G_1
      have c12_G_2 := cell_win hb12 c11_G_2 (by omega)
      clear c11_G_2
      go_wp2_with fail
      refine (markIntS_k x1 (1 + (cntShard x0 : Int)) _ _ _ H12x1 hkx1 (by omega) (by omega)).mono ?_
      rintro e w13 ⟨rfl, HE13x1, hb13⟩
      have BB13 := BB12.trans (hb13.below (B := w.heap.size) (by omega) BB12.size)
      have sz13 := hb13.size
      have H13W := H12W.win hb13 (by omega)
      clear H12W
      have H13G := H12G.win hb13 (by omega)
      clear H12G
      have c13_a0_0 := cell_win hb13 c12_a0_0 (by omega)
      clear c12_a0_0
      have c13_a0_1 := cell_win hb13 c12_a0_1 (by omega)
      clear c12_a0_1
      have c13_a0_2 := cell_win hb13 c12_a0_2 (by omega)
      clear c12_a0_2
      have c13_W_0 := cell_win hb13 c12_W_0 (by omega)
      clear c12_W_0
      have c13_W_1 := cell_win hb13 c12_W_1 (by omega)
      clear c12_W_1
      have c13_W_2 := cell_win hb13 c12_W_2 (by omega)
      clear c12_W_2
      have c13_G_0 := cell_win hb13 c12_G_0 (by omega)
      clear c12_G_0
      have c13_G_1 := cell_win hb13 c12_G_1 (by omega)
      clear c12_G_1
      have c13_G_2 := cell_win hb13 c12_G_2 (by omega)
      clear c12_G_2
      go_wp2_with fail
      refine (eqShard_k G W _ _ HDG.out HDW.out _ H13G.rd H13W.rd).mono ?_
      rintro e w14 ⟨rfl, hb14⟩
      have BB14 := BB13.trans (hb14.mono BB13.size)
      have sz14 := hb14.size
      have H14W := H13W.below hb14
      clear H13W
      have H14G := H13G.below hb14
      clear H13G
      have c14_a0_0 := cell_later hb14 c13_a0_0
      clear c13_a0_0
      have c14_a0_1 := cell_later hb14 c13_a0_1
      clear c13_a0_1
      have c14_a0_2 := cell_later hb14 c13_a0_2
      clear c13_a0_2
      have c14_W_0 := cell_later hb14 c13_W_0
      clear c13_W_0
      have c14_W_1 := cell_later hb14 c13_W_1
      clear c13_W_1
      have c14_W_2 := cell_later hb14 c13_W_2
      clear c13_W_2
      have c14_G_0 := cell_later hb14 c13_G_0
      clear c13_G_0
      have c14_G_1 := cell_later hb14 c13_G_1
      clear c13_G_1
      have c14_G_2 := cell_later hb14 c13_G_2
      clear c13_G_2
      go_wp2_with fail
      refine (markShard_k G (1) _ _ _ H14G hkG (by omega) (by omega)).mono ?_
      rintro e w15 ⟨rfl, HE15G, hb15⟩
      have BB15 := BB14.trans (hb15.below (B := w.heap.size) (by omega) BB14.size)
      have sz15 := hb15.size
      have H15W := H14W.win hb15 (by omega)
      clear H14W
      have c15_a0_0 := cell_win hb15 c14_a0_0 (by omega)
      clear c14_a0_0
      have c15_a0_1 := cell_win hb15 c14_a0_1 (by omega)
      clear c14_a0_1
      have c15_a0_2 := cell_win hb15 c14_a0_2 (by omega)
      clear c14_a0_2
      have c15_W_0 := cell_win hb15 c14_W_0 (by omega)
      clear c14_W_0
      have c15_W_1 := cell_win hb15 c14_W_1 (by omega)
      clear c14_W_1
      have c15_W_2 := cell_win hb15 c14_W_2 (by omega)
      clear c14_W_2
      have c15_G_0 := cell_win hb15 c14_G_0 (by omega)
      clear c14_G_0
      have c15_G_1 := cell_win hb15 c14_G_1 (by omega)
      clear c14_G_1
      have c15_G_2 := cell_win hb15 c14_G_2 (by omega)
      clear c14_G_2
      go_wp2_with fail
      refine (heldShard_k G 1 _ HE15G (by omega) (by omega)).mono ?_
      rintro e w16 ⟨rfl, hb16⟩
      have BB16 := BB15.trans (hb16.mono BB15.size)
      have sz16 := hb16.size
      have H16W := H15W.below hb16
      clear H15W
      have H16G := HE15G.below hb16
      clear HE15G
      have c16_a0_0 := cell_later hb16 c15_a0_0
      clear c15_a0_0
      have c16_a0_1 := cell_later hb16 c15_a0_1
      clear c15_a0_1
      have c16_a0_2 := cell_later hb16 c15_a0_2
      clear c15_a0_2
      have c16_W_0 := cell_later hb16 c15_W_0
      clear c15_W_0
      have c16_W_1 := cell_later hb16 c15_W_1
      clear c15_W_1
      have c16_W_2 := cell_later hb16 c15_W_2
      clear c15_W_2
      have c16_G_0 := cell_later hb16 c15_G_0
      clear c15_G_0
      have c16_G_1 := cell_later hb16 c15_G_1
      clear c15_G_1
      have c16_G_2 := cell_later hb16 c15_G_2
      clear c15_G_2
      go_wp2_with fail
      refine (toShard_k y0 _ (rdShard_below (goodShard_rd g0) BB16 (Nat.le_refl _)) hn0).mono ?_
      rintro e w17 ⟨v0, rfl, hdv0, H17v0, hkv0, hb17⟩
      have BB17 := BB16.trans (hb17.mono BB16.size)
      have sz17 := hb17.size
      have H17W := H16W.below hb17
      clear H16W
      have H17G := H16G.below hb17
      clear H16G
      have c17_a0_0 := cell_later hb17 c16_a0_0
      clear c16_a0_0
      have c17_a0_1 := cell_later hb17 c16_a0_1
      clear c16_a0_1
      have c17_a0_2 := cell_later hb17 c16_a0_2
      clear c16_a0_2
      have c17_W_0 := cell_later hb17 c16_W_0
      clear c16_W_0
      have c17_W_1 := cell_later hb17 c16_W_1
      clear c16_W_1
      have c17_W_2 := cell_later hb17 c16_W_2
      clear c16_W_2
      have c17_G_0 := cell_later hb17 c16_G_0
      clear c16_G_0
      have c17_G_1 := cell_later hb17 c16_G_1
      clear c16_G_1
      have c17_G_2 := cell_later hb17 c16_G_2
      clear c16_G_2
      have HDv0 := Lib.hid hdv0
      clear hdv0
      have okv0 := okShard_dat okY0 HDv0.out
      go_wp2_with fail
      refine (toIntS_k (⟨a1, n1, c1, z1⟩ : Row _) _ (rdIntS_below q1 BB17 (Nat.le_refl _)) hn1).mono ?_
      rintro e w18 ⟨v1, rfl, hdv1, H18v1, hkv1, hb18⟩
      have BB18 := BB17.trans (hb18.mono BB17.size)
      have sz18 := hb18.size
      have H18W := H17W.below hb18
      clear H17W
      have H18G := H17G.below hb18
      clear H17G
      have H18v0 := H17v0.below hb18
      clear H17v0
      have c18_a0_0 := cell_later hb18 c17_a0_0
      clear c17_a0_0
      have c18_a0_1 := cell_later hb18 c17_a0_1
      clear c17_a0_1
      have c18_a0_2 := cell_later hb18 c17_a0_2
      clear c17_a0_2
      have c18_W_0 := cell_later hb18 c17_W_0
      clear c17_W_0
      have c18_W_1 := cell_later hb18 c17_W_1
      clear c17_W_1
      have c18_W_2 := cell_later hb18 c17_W_2
      clear c17_W_2
      have c18_G_0 := cell_later hb18 c17_G_0
      clear c17_G_0
      have c18_G_1 := cell_later hb18 c17_G_1
      clear c17_G_1
      have c18_G_2 := cell_later hb18 c17_G_2
      clear c17_G_2
      have HDv1 := Lib.hid hdv1
      clear hdv1
      go_wp2_with fail
      refine (withVals_impl_k v0 (datShard y0) HDv0.out v1 (datIntS (⟨a1, n1, c1, z1⟩ : Row _)) HDv1.out _ (H18v0.good okv0) H18v1.rd (by rw [hkv0]; exact hn0)).mono ?_
      rintro e w19 ⟨K, rfl, hdK, H19K, hkK, hb19⟩
      have BB19 := BB18.trans (hb19.mono BB18.size)
      have sz19 := hb19.size
      have H19W := H18W.below hb19
      clear H18W
      have H19G := H18G.below hb19
      clear H18G
      have H19v0 := H18v0.below hb19
      clear H18v0
      have H19v1 := H18v1.below hb19
      clear H18v1
      have c19_a0_0 := cell_later hb19 c18_a0_0
      clear c18_a0_0
      have c19_a0_1 := cell_later hb19 c18_a0_1
      clear c18_a0_1
      have c19_a0_2 := cell_later hb19 c18_a0_2
      clear c18_a0_2
      have c19_W_0 := cell_later hb19 c18_W_0
      clear c18_W_0
      have c19_W_1 := cell_later hb19 c18_W_1
      clear c18_W_1
      have c19_W_2 := cell_later hb19 c18_W_2
      clear c18_W_2
      have c19_G_0 := cell_later hb19 c18_G_0
      clear c18_G_0
      have c19_G_1 := cell_later hb19 c18_G_1
      clear c18_G_1
      have c19_G_2 := cell_later hb19 c18_G_2
      clear c18_G_2
      have HDK := Lib.hid hdK
      clear hdK
      have hl20_a0_0 := World.block_lt_of_cell? _ _ c19_a0_0
      simp only at hl20_a0_0
      have hl20_W_0 := World.block_lt_of_cell? _ _ c19_W_0
      simp only at hl20_W_0
      have hl20_G_0 := World.block_lt_of_cell? _ _ c19_G_0
      simp only at hl20_G_0
      have ha20 := ((Below.refl w19.heap.size w19).alloc (Nat.le_refl _) (.cells #[.int .i64 K.lo, .int .i64 K.hi, .slice K.edgesA K.edgesN K.edgesC] 64))
      have BP20 := BB19.trans (ha20.mono BB19.size)
      go_wp2_with fail
      refine (eqShard_k K W _ _ HDK.out HDW.out _ (H19K.below ha20).rd (H19W.below ha20).rd).mono ?_
      rintro e w20 ⟨rfl, hb20⟩
      have hx20 : Below w19.heap.size w19 w20 := ha20.trans (hb20.mono ha20.size)
      have szz20 : w19.heap.size + 1 ≤ w20.heap.size := by have := hb20.size; simp at this; omega
      obtain ⟨hc20, hf20⟩ := bcell hb20
      have c20_K_0 : w20.cell? ⟨w19.heap.size, 0, none⟩ = some (.int .i64 K.lo) := by rw [hc20 _ _ (by simp)]; simp [go_sem]
      have c20_K_1 : w20.cell? ⟨w19.heap.size, 1, none⟩ = some (.int .i64 K.hi) := by rw [hc20 _ _ (by simp)]; simp [go_sem]
      have c20_K_2 : w20.cell? ⟨w19.heap.size, 2, none⟩ = some (.slice K.edgesA K.edgesN K.edgesC) := by rw [hc20 _ _ (by simp)]; simp [go_sem]
      clear hc20 hf20
      have BB20 := BB19.trans (hx20.mono BB19.size)
      have sz20 := hx20.size
      have H20W := H19W.below hx20
      clear H19W
      have H20G := H19G.below hx20
      clear H19G
      have H20K := H19K.below hx20
      clear H19K
      have c20_a0_0 := cell_later hx20 c19_a0_0
      clear c19_a0_0
      have c20_a0_1 := cell_later hx20 c19_a0_1
      clear c19_a0_1
      have c20_a0_2 := cell_later hx20 c19_a0_2
      clear c19_a0_2
      have c20_W_0 := cell_later hx20 c19_W_0
      clear c19_W_0
      have c20_W_1 := cell_later hx20 c19_W_1
      clear c19_W_1
      have c20_W_2 := cell_later hx20 c19_W_2
      clear c19_W_2
      have c20_G_0 := cell_later hx20 c19_G_0
      clear c19_G_0
      have c20_G_1 := cell_later hx20 c19_G_1
      clear c19_G_1
      have c20_G_2 := cell_later hx20 c19_G_2
      clear c19_G_2
      go_wp2_with fail
      refine (heldShard_k G 1 _ H20G (by omega) (by omega)).mono ?_
      rintro e w21 ⟨rfl, hb21⟩
      have BB21 := BB20.trans (hb21.mono BB20.size)
      have sz21 := hb21.size
      have H21W := H20W.below hb21
      clear H20W
      have H21G := H20G.below hb21
      clear H20G
      have c21_a0_0 := cell_later hb21 c20_a0_0
      clear c20_a0_0
      have c21_a0_1 := cell_later hb21 c20_a0_1
      clear c20_a0_1
      have c21_a0_2 := cell_later hb21 c20_a0_2
      clear c20_a0_2
      have c21_W_0 := cell_later hb21 c20_W_0
      clear c20_W_0
      have c21_W_1 := cell_later hb21 c20_W_1
      clear c20_W_1
      have c21_W_2 := cell_later hb21 c20_W_2
      clear c20_W_2
      have c21_G_0 := cell_later hb21 c20_G_0
      clear c20_G_0
      have c21_G_1 := cell_later hb21 c20_G_1
      clear c20_G_1
      have c21_G_2 := cell_later hb21 c20_G_2
      clear c20_G_2
      go_wp2
      go_ret
      exact ⟨rfl, BB21⟩
    · have BB0 := Below.refl w.heap.size w
      have okY0 := goodShard_ok g0
      have q1 : rdIntS w ⟨a1, n1, c1, z1⟩ := r1
      go_enter Try.func14, Try.ntmps14
      have HL0 := Lib.hid (leftB_no (left := 1048576) (n := bulkShard y0) (by omega))
      have ha1 := ((Below.refl w.heap.size w).alloc (Nat.le_refl _) (.cells #[.int .i64 y0.lo, .int .i64 y0.hi, .slice y0.edgesA y0.edgesN y0.edgesC] 59))
      have BP1 := BB0.trans (ha1.mono BB0.size)
      go_wp2_with fail
      refine (szShard_k y0 _ _ (rdShard_below (goodShard_rd g0) BP1 (Nat.le_refl _)) (by omega) (by omega)).mono ?_
      rintro e w1 ⟨rfl, hb1⟩
      rw [HL0.out]
      have hx1 : Below w.heap.size w w1 := ha1.trans (hb1.mono ha1.size)
      have szz1 : w.heap.size + 1 ≤ w1.heap.size := by have := hb1.size; simp at this; omega
      obtain ⟨hc1, hf1⟩ := bcell hb1
      have c1_a0_0 : w1.cell? ⟨w.heap.size, 0, none⟩ = some (.int .i64 y0.lo) := by rw [hc1 _ _ (by simp)]; simp [go_sem]
      have c1_a0_1 : w1.cell? ⟨w.heap.size, 1, none⟩ = some (.int .i64 y0.hi) := by rw [hc1 _ _ (by simp)]; simp [go_sem]
      have c1_a0_2 : w1.cell? ⟨w.heap.size, 2, none⟩ = some (.slice y0.edgesA y0.edgesN y0.edgesC) := by rw [hc1 _ _ (by simp)]; simp [go_sem]
      clear hc1 hf1
      have BB1 := BB0.trans (hx1.mono BB0.size)
      have sz1 := hx1.size
      go_wp2
      go_ret
      exact ⟨rfl, BB1⟩
  · have BB0 := Below.refl w.heap.size w
    have ha1 := ((Below.refl w.heap.size w).alloc (Nat.le_refl _) (.cells #[.int .i64 y0.lo, .int .i64 y0.hi, .slice y0.edgesA y0.edgesN y0.edgesC] 59))
    have BP1 := BB0.trans (ha1.mono BB0.size)
    have okY0 := goodShard_ok g0
    have q1 : rdIntS w ⟨a1, n1, c1, z1⟩ := r1
    go_enter Try.func14, Try.ntmps14
    go_wp2
    go_ret
    exact ⟨rfl, BP1⟩
end Go.Proofs.Ytkgalkaafocnjaa

/- FnExactDiskRead: the walk of the law out of the contracts of what it calls. -/
import Derived.Test.YtoodlmhnemamhaaDiskRd
import Derived.Test.YtoodlmhnemamhaaDiskMK
import Derived.Test.YtoodlmhnemamhaaDiskE
import Derived.Test.YtoodlmhnemamhaaByteSK
import Derived.Test.YtoodlmhnemamhaaKeep
import Derived.Test.YtoodlmhnemamhaaRow
namespace Go.Proofs.Ytoodlmhnemamhaa
open Go.RowKit
set_option linter.unusedVariables false in
set_option maxRecDepth 100000 in
set_option maxHeartbeats 6400000 in
theorem walk_FnExactDiskRead (y0 : DiskR) (s1 : ByteArray) (w : World) (g0 : goodDisk w y0) (g1 : s1.size ≤ maxLen) :
    Calls Try.prog 6 #[.agg #[.int .i64 y0.room, .int .i64 y0.fuse, .slice y0.filesA y0.filesN y0.filesC, .slice y0.waitA y0.waitN y0.waitC], .string s1] w fun e w' => e = .returned (.bool true) ∧ Below w.heap.size w w' := by
  unfold maxLen at *
  by_cases hg0 : s1.size ≤ 1048576
  · by_cases hg1 : bulkDisk y0 ≤ 1048576
    · have BB0 := Below.refl w.heap.size w
      have okY0 := goodDisk_ok g0
      have hn0 : bulkDisk y0 ≤ 1048576 := by omega
      go_enter Try.func6, Try.ntmps6
      have HL0 := Lib.hid (leftB_yes (left := 1048576) (n := bulkDisk y0) (by omega))
      have ha1 := ((Below.refl w.heap.size w).alloc (Nat.le_refl _) (.cells #[.int .i64 y0.room, .int .i64 y0.fuse, .slice y0.filesA y0.filesN y0.filesC, .slice y0.waitA y0.waitN y0.waitC] 43))
      have BP1 := BB0.trans (ha1.mono BB0.size)
      go_wp2_with fail
      refine (szDisk_k y0 _ _ (rdDisk_below (goodDisk_rd g0) BP1 (Nat.le_refl _)) (goodDisk_str g0) (by omega) (by omega)).mono ?_
      rintro e w1 ⟨rfl, hb1⟩
      rw [HL0.out]
      have hx1 : Below w.heap.size w w1 := ha1.trans (hb1.mono ha1.size)
      have szz1 : w.heap.size + 1 ≤ w1.heap.size := by have := hb1.size; simp at this; omega
      obtain ⟨hc1, hf1⟩ := bcell hb1
      have c1_a0_0 : w1.cell? ⟨w.heap.size, 0, none⟩ = some (.int .i64 y0.room) := by rw [hc1 _ _ (by simp)]; simp [go_sem]
      have c1_a0_1 : w1.cell? ⟨w.heap.size, 1, none⟩ = some (.int .i64 y0.fuse) := by rw [hc1 _ _ (by simp)]; simp [go_sem]
      have c1_a0_2 : w1.cell? ⟨w.heap.size, 2, none⟩ = some (.slice y0.filesA y0.filesN y0.filesC) := by rw [hc1 _ _ (by simp)]; simp [go_sem]
      have c1_a0_3 : w1.cell? ⟨w.heap.size, 3, none⟩ = some (.slice y0.waitA y0.waitN y0.waitC) := by rw [hc1 _ _ (by simp)]; simp [go_sem]
      clear hc1 hf1
      have BB1 := BB0.trans (hx1.mono BB0.size)
      have sz1 := hx1.size
      go_wp2_with fail
      refine (toDisk_k y0 _ (rdDisk_below (goodDisk_rd g0) BB1 (Nat.le_refl _)) hn0).mono ?_
      rintro e w2 ⟨u0, rfl, hdu0, H2u0, hku0, hb2⟩
      have BB2 := BB1.trans (hb2.mono BB1.size)
      have sz2 := hb2.size
      have c2_a0_0 := cell_later hb2 c1_a0_0
      clear c1_a0_0
      have c2_a0_1 := cell_later hb2 c1_a0_1
      clear c1_a0_1
      have c2_a0_2 := cell_later hb2 c1_a0_2
      clear c1_a0_2
      have c2_a0_3 := cell_later hb2 c1_a0_3
      clear c1_a0_3
      have HDu0 := Lib.hid hdu0
      clear hdu0
      have oku0 := okDisk_dat okY0 HDu0.out
      go_wp2_with fail
      refine (diskRead_spec_k u0 (datDisk y0) HDu0.out s1 _ (H2u0.good oku0) (by rw [hku0]; exact hn0)).mono ?_
      rintro e w3 ⟨W, rfl, hdW, H3W, hkW, hb3⟩
      have BB3 := BB2.trans (hb3.mono BB2.size)
      have sz3 := hb3.size
      have H3u0 := H2u0.below hb3
      clear H2u0
      have c3_a0_0 := cell_later hb3 c2_a0_0
      clear c2_a0_0
      have c3_a0_1 := cell_later hb3 c2_a0_1
      clear c2_a0_1
      have c3_a0_2 := cell_later hb3 c2_a0_2
      clear c2_a0_2
      have c3_a0_3 := cell_later hb3 c2_a0_3
      clear c2_a0_3
      have HDW := Lib.hid hdW
      clear hdW
      go_wp2_with fail
      refine (toDisk_k y0 _ (rdDisk_below (goodDisk_rd g0) BB3 (Nat.le_refl _)) hn0).mono ?_
      rintro e w4 ⟨x0, rfl, hdx0, H4x0, hkx0, hb4⟩
      have BB4 := BB3.trans (hb4.mono BB3.size)
      have sz4 := hb4.size
      have H4W := H3W.below hb4
      clear H3W
      have c4_a0_0 := cell_later hb4 c3_a0_0
      clear c3_a0_0
      have c4_a0_1 := cell_later hb4 c3_a0_1
      clear c3_a0_1
      have c4_a0_2 := cell_later hb4 c3_a0_2
      clear c3_a0_2
      have c4_a0_3 := cell_later hb4 c3_a0_3
      clear c3_a0_3
      have HDx0 := Lib.hid hdx0
      clear hdx0
      have okx0 := okDisk_dat okY0 HDx0.out
      have hl5_a0_0 := World.block_lt_of_cell? _ _ c4_a0_0
      simp only at hl5_a0_0
      have ha5 := ((Below.refl w4.heap.size w4).alloc (Nat.le_refl _) (.cells #[.int .i64 x0.room, .int .i64 x0.fuse, .slice x0.filesA x0.filesN x0.filesC, .slice x0.waitA x0.waitN x0.waitC] 34))
      have BP5 := BB4.trans (ha5.mono BB4.size)
      go_wp2_with fail
      refine (diskRead_impl_k x0 (datDisk y0) HDx0.out s1 (by unfold maxLen; omega) _ ((H4x0.below ha5).good okx0) (by rw [hkx0]; exact hn0)).mono ?_
      rintro e w5 ⟨G, rfl, hdG, H5G, hkG, hb5⟩
      have hx5 : Below w4.heap.size w4 w5 := ha5.trans (hb5.mono ha5.size)
      have szz5 : w4.heap.size + 1 ≤ w5.heap.size := by have := hb5.size; simp at this; omega
      obtain ⟨hc5, hf5⟩ := bcell hb5
      have c5_x0_0 : w5.cell? ⟨w4.heap.size, 0, none⟩ = some (.int .i64 x0.room) := by rw [hc5 _ _ (by simp)]; simp [go_sem]
      have c5_x0_1 : w5.cell? ⟨w4.heap.size, 1, none⟩ = some (.int .i64 x0.fuse) := by rw [hc5 _ _ (by simp)]; simp [go_sem]
      have c5_x0_2 : w5.cell? ⟨w4.heap.size, 2, none⟩ = some (.slice x0.filesA x0.filesN x0.filesC) := by rw [hc5 _ _ (by simp)]; simp [go_sem]
      have c5_x0_3 : w5.cell? ⟨w4.heap.size, 3, none⟩ = some (.slice x0.waitA x0.waitN x0.waitC) := by rw [hc5 _ _ (by simp)]; simp [go_sem]
      clear hc5 hf5
      have BB5 := BB4.trans (hx5.mono BB4.size)
      have sz5 := hx5.size
      have H5W := H4W.below hx5
      clear H4W
      have H5x0 := H4x0.below hx5
      clear H4x0
      have c5_a0_0 := cell_later hx5 c4_a0_0
      clear c4_a0_0
      have c5_a0_1 := cell_later hx5 c4_a0_1
      clear c4_a0_1
      have c5_a0_2 := cell_later hx5 c4_a0_2
      clear c4_a0_2
      have c5_a0_3 := cell_later hx5 c4_a0_3
      clear c4_a0_3
      replace H5G := H5G.lo_le (lo' := w4.heap.size + 1) (by simp)
      have HDG := Lib.hid hdG
      clear hdG
      go_wp2_with fail
      refine (eqByteS_k G W _ _ HDG.out HDW.out _ H5G.rd H5W.rd).mono ?_
      rintro e w6 ⟨rfl, hb6⟩
      have BB6 := BB5.trans (hb6.mono BB5.size)
      have sz6 := hb6.size
      have H6W := H5W.below hb6
      clear H5W
      have H6x0 := H5x0.below hb6
      clear H5x0
      have H6G := H5G.below hb6
      clear H5G
      have c6_a0_0 := cell_later hb6 c5_a0_0
      clear c5_a0_0
      have c6_a0_1 := cell_later hb6 c5_a0_1
      clear c5_a0_1
      have c6_a0_2 := cell_later hb6 c5_a0_2
      clear c5_a0_2
      have c6_a0_3 := cell_later hb6 c5_a0_3
      clear c5_a0_3
      have c6_x0_0 := cell_later hb6 c5_x0_0
      clear c5_x0_0
      have c6_x0_1 := cell_later hb6 c5_x0_1
      clear c5_x0_1
      have c6_x0_2 := cell_later hb6 c5_x0_2
      clear c5_x0_2
      have c6_x0_3 := cell_later hb6 c5_x0_3
      clear c5_x0_3
      go_wp2_with fail
      go_region_held3 (fun w' => w'.cell? ⟨w.heap.size, 0, none⟩ = some (.int .i64 y0.room) ∧ w'.cell? ⟨w.heap.size, 1, none⟩ = some (.int .i64 y0.fuse) ∧ w'.cell? ⟨w.heap.size, 2, none⟩ = some (.slice y0.filesA y0.filesN y0.filesC) ∧ w'.cell? ⟨w.heap.size, 3, none⟩ = some (.slice y0.waitA y0.waitN y0.waitC) ∧ w'.cell? ⟨w4.heap.size, 0, none⟩ = some (.int .i64 x0.room) ∧ w'.cell? ⟨w4.heap.size, 1, none⟩ = some (.int .i64 x0.fuse) ∧ w'.cell? ⟨w4.heap.size, 2, none⟩ = some (.slice x0.filesA x0.filesN x0.filesC) ∧ w'.cell? ⟨w4.heap.size, 3, none⟩ = some (.slice x0.waitA x0.waitN x0.waitC) ∧ Below w6.heap.size w6 w') (first | exact keepd8 (by assumption) | exact keep8 (by assumption) (Nat.le_refl _) (by assumption) | exact ⟨c6_a0_0, c6_a0_1, c6_a0_2, c6_a0_3, c6_x0_0, c6_x0_1, c6_x0_2, c6_x0_3, (Below.refl _ _).drew⟩) (first | (go_at_call 22; refine (toDisk_k y0 _ (rdDisk_below (goodDisk_rd g0) (BB6.trans ((tail8 (by assumption) : Below w6.heap.size w6 _).mono BB6.size)) (Nat.le_refl _)) hn0).mono ?_; rintro e wa ⟨t, rfl, hdt, Ht, hkt, hba⟩) | (go_at_call 17; refine (eqDisk_k x0 t _ _ HDx0.out hdt _ (H6x0.below (tail8 (by assumption) : Below w6.heap.size w6 _)).rd Ht.rd).mono ?_; rintro e wb ⟨rfl, hbb⟩))
      have hb7 : Below w6.heap.size w6 _ := tail8 (by assumption)
      have BB7 := BB6.trans (hb7.mono BB6.size)
      have sz7 := hb7.size
      have H7W := H6W.below hb7
      clear H6W
      have H7x0 := H6x0.below hb7
      clear H6x0
      have H7G := H6G.below hb7
      clear H6G
      have c7_a0_0 := cell_later hb7 c6_a0_0
      clear c6_a0_0
      have c7_a0_1 := cell_later hb7 c6_a0_1
      clear c6_a0_1
      have c7_a0_2 := cell_later hb7 c6_a0_2
      clear c6_a0_2
      have c7_a0_3 := cell_later hb7 c6_a0_3
      clear c6_a0_3
      have c7_x0_0 := cell_later hb7 c6_x0_0
      clear c6_x0_0
      have c7_x0_1 := cell_later hb7 c6_x0_1
      clear c6_x0_1
      have c7_x0_2 := cell_later hb7 c6_x0_2
      clear c6_x0_2
      have c7_x0_3 := cell_later hb7 c6_x0_3
      clear c6_x0_3
      skip
      replace hkx0 : bulkDisk x0 ≤ 1048576 := by rw [hkx0]; exact hn0
      have cn0 := cntDisk_own H7x0 hkx0
      go_wp2_with fail
      refine (markDisk_k x0 (1) _ _ _ H7x0 hkx0 (by omega) (by omega)).mono ?_
      rintro e w8 ⟨rfl, HE8x0, hb8⟩
      have BB8 := BB7.trans (hb8.below (B := w.heap.size) (by omega) BB7.size)
      have sz8 := hb8.size
      have H8W := H7W.win hb8 (by omega)
      clear H7W
      have H8G := H7G.win hb8 (by omega)
      clear H7G
      have c8_a0_0 := cell_win hb8 c7_a0_0 (by omega)
      clear c7_a0_0
      have c8_a0_1 := cell_win hb8 c7_a0_1 (by omega)
      clear c7_a0_1
      have c8_a0_2 := cell_win hb8 c7_a0_2 (by omega)
      clear c7_a0_2
      have c8_a0_3 := cell_win hb8 c7_a0_3 (by omega)
      clear c7_a0_3
      have c8_x0_0 := cell_win hb8 c7_x0_0 (by omega)
      clear c7_x0_0
      have c8_x0_1 := cell_win hb8 c7_x0_1 (by omega)
      clear c7_x0_1
      have c8_x0_2 := cell_win hb8 c7_x0_2 (by omega)
      clear c7_x0_2
      have c8_x0_3 := cell_win hb8 c7_x0_3 (by omega)
      clear c7_x0_3
      go_wp2_with fail
      refine (eqByteS_k G W _ _ HDG.out HDW.out _ H8G.rd H8W.rd).mono ?_
      rintro e w9 ⟨rfl, hb9⟩
      have BB9 := BB8.trans (hb9.mono BB8.size)
      have sz9 := hb9.size
      have H9W := H8W.below hb9
      clear H8W
      have H9G := H8G.below hb9
      clear H8G
      have c9_a0_0 := cell_later hb9 c8_a0_0
      clear c8_a0_0
      have c9_a0_1 := cell_later hb9 c8_a0_1
      clear c8_a0_1
      have c9_a0_2 := cell_later hb9 c8_a0_2
      clear c8_a0_2
      have c9_a0_3 := cell_later hb9 c8_a0_3
      clear c8_a0_3
      go_wp2_with fail
      refine (markByteS_k G (1) _ _ _ H9G hkG (by omega) (by omega)).mono ?_
      rintro e w10 ⟨rfl, HE10G, hb10⟩
      have BB10 := BB9.trans (hb10.below (B := w.heap.size) (by omega) BB9.size)
      have sz10 := hb10.size
      have H10W := H9W.win hb10 (by omega)
      clear H9W
      have c10_a0_0 := cell_win hb10 c9_a0_0 (by omega)
      clear c9_a0_0
      have c10_a0_1 := cell_win hb10 c9_a0_1 (by omega)
      clear c9_a0_1
      have c10_a0_2 := cell_win hb10 c9_a0_2 (by omega)
      clear c9_a0_2
      have c10_a0_3 := cell_win hb10 c9_a0_3 (by omega)
      clear c9_a0_3
      go_wp2_with fail
      refine (heldByteS_k G 1 _ HE10G (by omega) (by omega)).mono ?_
      rintro e w11 ⟨rfl, hb11⟩
      have BB11 := BB10.trans (hb11.mono BB10.size)
      have sz11 := hb11.size
      have H11W := H10W.below hb11
      clear H10W
      have H11G := HE10G.below hb11
      clear HE10G
      have c11_a0_0 := cell_later hb11 c10_a0_0
      clear c10_a0_0
      have c11_a0_1 := cell_later hb11 c10_a0_1
      clear c10_a0_1
      have c11_a0_2 := cell_later hb11 c10_a0_2
      clear c10_a0_2
      have c11_a0_3 := cell_later hb11 c10_a0_3
      clear c10_a0_3
      go_wp2_with fail
      refine (toDisk_k y0 _ (rdDisk_below (goodDisk_rd g0) BB11 (Nat.le_refl _)) hn0).mono ?_
      rintro e w12 ⟨v0, rfl, hdv0, H12v0, hkv0, hb12⟩
      have BB12 := BB11.trans (hb12.mono BB11.size)
      have sz12 := hb12.size
      have H12W := H11W.below hb12
      clear H11W
      have H12G := H11G.below hb12
      clear H11G
      have c12_a0_0 := cell_later hb12 c11_a0_0
      clear c11_a0_0
      have c12_a0_1 := cell_later hb12 c11_a0_1
      clear c11_a0_1
      have c12_a0_2 := cell_later hb12 c11_a0_2
      clear c11_a0_2
      have c12_a0_3 := cell_later hb12 c11_a0_3
      clear c11_a0_3
      have HDv0 := Lib.hid hdv0
      clear hdv0
      have okv0 := okDisk_dat okY0 HDv0.out
      go_wp2_with fail
      refine (diskRead_impl_k v0 (datDisk y0) HDv0.out s1 (by unfold maxLen; omega) _ (H12v0.good okv0) (by rw [hkv0]; exact hn0)).mono ?_
      rintro e w13 ⟨K, rfl, hdK, H13K, hkK, hb13⟩
      have BB13 := BB12.trans (hb13.mono BB12.size)
      have sz13 := hb13.size
      have H13W := H12W.below hb13
      clear H12W
      have H13G := H12G.below hb13
      clear H12G
      have H13v0 := H12v0.below hb13
      clear H12v0
      have c13_a0_0 := cell_later hb13 c12_a0_0
      clear c12_a0_0
      have c13_a0_1 := cell_later hb13 c12_a0_1
      clear c12_a0_1
      have c13_a0_2 := cell_later hb13 c12_a0_2
      clear c12_a0_2
      have c13_a0_3 := cell_later hb13 c12_a0_3
      clear c12_a0_3
      have HDK := Lib.hid hdK
      clear hdK
      go_wp2_with fail
      refine (eqByteS_k K W _ _ HDK.out HDW.out _ H13K.rd H13W.rd).mono ?_
      rintro e w14 ⟨rfl, hb14⟩
      have BB14 := BB13.trans (hb14.mono BB13.size)
      have sz14 := hb14.size
      have H14W := H13W.below hb14
      clear H13W
      have H14G := H13G.below hb14
      clear H13G
      have H14K := H13K.below hb14
      clear H13K
      have c14_a0_0 := cell_later hb14 c13_a0_0
      clear c13_a0_0
      have c14_a0_1 := cell_later hb14 c13_a0_1
      clear c13_a0_1
      have c14_a0_2 := cell_later hb14 c13_a0_2
      clear c13_a0_2
      have c14_a0_3 := cell_later hb14 c13_a0_3
      clear c13_a0_3
      go_wp2_with fail
      refine (heldByteS_k G 1 _ H14G (by omega) (by omega)).mono ?_
      rintro e w15 ⟨rfl, hb15⟩
      have BB15 := BB14.trans (hb15.mono BB14.size)
      have sz15 := hb15.size
      have H15W := H14W.below hb15
      clear H14W
      have H15G := H14G.below hb15
      clear H14G
      have c15_a0_0 := cell_later hb15 c14_a0_0
      clear c14_a0_0
      have c15_a0_1 := cell_later hb15 c14_a0_1
      clear c14_a0_1
      have c15_a0_2 := cell_later hb15 c14_a0_2
      clear c14_a0_2
      have c15_a0_3 := cell_later hb15 c14_a0_3
      clear c14_a0_3
      go_wp2
      go_ret
      exact ⟨rfl, BB15⟩
    · have BB0 := Below.refl w.heap.size w
      have okY0 := goodDisk_ok g0
      go_enter Try.func6, Try.ntmps6
      have HL0 := Lib.hid (leftB_no (left := 1048576) (n := bulkDisk y0) (by omega))
      have ha1 := ((Below.refl w.heap.size w).alloc (Nat.le_refl _) (.cells #[.int .i64 y0.room, .int .i64 y0.fuse, .slice y0.filesA y0.filesN y0.filesC, .slice y0.waitA y0.waitN y0.waitC] 43))
      have BP1 := BB0.trans (ha1.mono BB0.size)
      go_wp2_with fail
      refine (szDisk_k y0 _ _ (rdDisk_below (goodDisk_rd g0) BP1 (Nat.le_refl _)) (goodDisk_str g0) (by omega) (by omega)).mono ?_
      rintro e w1 ⟨rfl, hb1⟩
      rw [HL0.out]
      have hx1 : Below w.heap.size w w1 := ha1.trans (hb1.mono ha1.size)
      have szz1 : w.heap.size + 1 ≤ w1.heap.size := by have := hb1.size; simp at this; omega
      obtain ⟨hc1, hf1⟩ := bcell hb1
      have c1_a0_0 : w1.cell? ⟨w.heap.size, 0, none⟩ = some (.int .i64 y0.room) := by rw [hc1 _ _ (by simp)]; simp [go_sem]
      have c1_a0_1 : w1.cell? ⟨w.heap.size, 1, none⟩ = some (.int .i64 y0.fuse) := by rw [hc1 _ _ (by simp)]; simp [go_sem]
      have c1_a0_2 : w1.cell? ⟨w.heap.size, 2, none⟩ = some (.slice y0.filesA y0.filesN y0.filesC) := by rw [hc1 _ _ (by simp)]; simp [go_sem]
      have c1_a0_3 : w1.cell? ⟨w.heap.size, 3, none⟩ = some (.slice y0.waitA y0.waitN y0.waitC) := by rw [hc1 _ _ (by simp)]; simp [go_sem]
      clear hc1 hf1
      have BB1 := BB0.trans (hx1.mono BB0.size)
      have sz1 := hx1.size
      go_wp2
      go_ret
      exact ⟨rfl, BB1⟩
  · have BB0 := Below.refl w.heap.size w
    have ha1 := ((Below.refl w.heap.size w).alloc (Nat.le_refl _) (.cells #[.int .i64 y0.room, .int .i64 y0.fuse, .slice y0.filesA y0.filesN y0.filesC, .slice y0.waitA y0.waitN y0.waitC] 43))
    have BP1 := BB0.trans (ha1.mono BB0.size)
    have okY0 := goodDisk_ok g0
    go_enter Try.func6, Try.ntmps6
    go_wp2
    go_ret
    exact ⟨rfl, BP1⟩
end Go.Proofs.Ytoodlmhnemamhaa

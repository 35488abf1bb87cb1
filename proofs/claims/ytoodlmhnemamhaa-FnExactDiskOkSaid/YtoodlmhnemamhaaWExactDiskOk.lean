/- FnExactDiskOk: the walk of the law out of the contracts of what it calls. -/
import Derived.Test.YtoodlmhnemamhaaDiskOkK
import Derived.Test.YtoodlmhnemamhaaKeep
import Derived.Test.YtoodlmhnemamhaaRow
namespace Go.Proofs.Ytoodlmhnemamhaa
open Go.RowKit
set_option linter.unusedVariables false in
set_option maxRecDepth 100000 in
set_option maxHeartbeats 6400000 in
theorem walk_FnExactDiskOk (y0 : DiskR) (w : World) (g0 : goodDisk w y0) :
    Calls Try.prog 5 #[.agg #[.int .i64 y0.room, .int .i64 y0.fuse, .slice y0.filesA y0.filesN y0.filesC, .slice y0.waitA y0.waitN y0.waitC]] w fun e w' => e = .returned (.bool true) ∧ Below w.heap.size w w' := by
  by_cases hg0 : bulkDisk y0 ≤ 1048576
  · have BB0 := Below.refl w.heap.size w
    have okY0 := goodDisk_ok g0
    have hn0 : bulkDisk y0 ≤ 1048576 := by omega
    go_enter Try.func5, Try.ntmps5
    have HL0 := Lib.hid (leftB_yes (left := 1048576) (n := bulkDisk y0) (by omega))
    have ha1 := ((Below.refl w.heap.size w).alloc (Nat.le_refl _) (.cells #[.int .i64 y0.room, .int .i64 y0.fuse, .slice y0.filesA y0.filesN y0.filesC, .slice y0.waitA y0.waitN y0.waitC] 43))
    have BP1 := BB0.trans (ha1.mono BB0.size)
    go_wp2_with fail
    refine (szDisk_k y0 _ _ (rdDisk_below (goodDisk_rd g0) BP1 (Nat.le_refl _)) (goodDisk_str g0) (by omega) (by omega)).mono ?_
    rintro e w1 ⟨rfl, hb1⟩
    rw [HL0.out]
    have hx1 : Below w.heap.size w w1 := ha1.trans (hb1.mono ha1.size)
    have szz1 : w.heap.size + 1 ≤ w1.heap.size := by have := hb1.size; simp at this; omega
    obtain ⟨hc1, hf1⟩ := bcell hb1
    have c1_a0_0 : w1.cell? ⟨w.heap.size, 0, none⟩ = some (.int .i64 y0.room) := by rw [hc1 _ _ (by simp)]; simp [go_sem]
    have c1_a0_1 : w1.cell? ⟨w.heap.size, 1, none⟩ = some (.int .i64 y0.fuse) := by rw [hc1 _ _ (by simp)]; simp [go_sem]
    have c1_a0_2 : w1.cell? ⟨w.heap.size, 2, none⟩ = some (.slice y0.filesA y0.filesN y0.filesC) := by rw [hc1 _ _ (by simp)]; simp [go_sem]
    have c1_a0_3 : w1.cell? ⟨w.heap.size, 3, none⟩ = some (.slice y0.waitA y0.waitN y0.waitC) := by rw [hc1 _ _ (by simp)]; simp [go_sem]
    clear hc1 hf1
    have BB1 := BB0.trans (hx1.mono BB0.size)
    have sz1 := hx1.size
    go_wp2_with fail
    refine (toDisk_k y0 _ (rdDisk_below (goodDisk_rd g0) BB1 (Nat.le_refl _)) hn0).mono ?_
    rintro e w2 ⟨u0, rfl, hdu0, H2u0, hku0, hb2⟩
    have BB2 := BB1.trans (hb2.mono BB1.size)
    have sz2 := hb2.size
    have c2_a0_0 := cell_later hb2 c1_a0_0
    clear c1_a0_0
    have c2_a0_1 := cell_later hb2 c1_a0_1
    clear c1_a0_1
    have c2_a0_2 := cell_later hb2 c1_a0_2
    clear c1_a0_2
    have c2_a0_3 := cell_later hb2 c1_a0_3
    clear c1_a0_3
    have HDu0 := Lib.hid hdu0
    clear hdu0
    have oku0 := okDisk_dat okY0 HDu0.out
    go_wp2_with fail
    refine (diskOk_spec_k u0 (datDisk y0) HDu0.out _ (H2u0.good oku0) (by rw [hku0]; exact hn0)).mono ?_
    rintro e w3 ⟨rfl, hb3⟩
    have BB3 := BB2.trans (hb3.mono BB2.size)
    have sz3 := hb3.size
    have H3u0 := H2u0.below hb3
    clear H2u0
    have c3_a0_0 := cell_later hb3 c2_a0_0
    clear c2_a0_0
    have c3_a0_1 := cell_later hb3 c2_a0_1
    clear c2_a0_1
    have c3_a0_2 := cell_later hb3 c2_a0_2
    clear c2_a0_2
    have c3_a0_3 := cell_later hb3 c2_a0_3
    clear c2_a0_3
    go_wp2_with fail
    refine (toDisk_k y0 _ (rdDisk_below (goodDisk_rd g0) BB3 (Nat.le_refl _)) hn0).mono ?_
    rintro e w4 ⟨x0, rfl, hdx0, H4x0, hkx0, hb4⟩
    have BB4 := BB3.trans (hb4.mono BB3.size)
    have sz4 := hb4.size
    have c4_a0_0 := cell_later hb4 c3_a0_0
    clear c3_a0_0
    have c4_a0_1 := cell_later hb4 c3_a0_1
    clear c3_a0_1
    have c4_a0_2 := cell_later hb4 c3_a0_2
    clear c3_a0_2
    have c4_a0_3 := cell_later hb4 c3_a0_3
    clear c3_a0_3
    have HDx0 := Lib.hid hdx0
    clear hdx0
    have okx0 := okDisk_dat okY0 HDx0.out
    have hl5_a0_0 := World.block_lt_of_cell? _ _ c4_a0_0
    simp only at hl5_a0_0
    have ha5 := ((Below.refl w4.heap.size w4).alloc (Nat.le_refl _) (.cells #[.int .i64 x0.room, .int .i64 x0.fuse, .slice x0.filesA x0.filesN x0.filesC, .slice x0.waitA x0.waitN x0.waitC] 34))
    have BP5 := BB4.trans (ha5.mono BB4.size)
    go_wp2_with fail
    refine (diskOk_impl_k x0 (datDisk y0) HDx0.out _ ((H4x0.below ha5).good okx0) (by rw [hkx0]; exact hn0)).mono ?_
    rintro e w5 ⟨rfl, hb5⟩
    have hx5 : Below w4.heap.size w4 w5 := ha5.trans (hb5.mono ha5.size)
    have szz5 : w4.heap.size + 1 ≤ w5.heap.size := by have := hb5.size; simp at this; omega
    obtain ⟨hc5, hf5⟩ := bcell hb5
    have c5_x0_0 : w5.cell? ⟨w4.heap.size, 0, none⟩ = some (.int .i64 x0.room) := by rw [hc5 _ _ (by simp)]; simp [go_sem]
    have c5_x0_1 : w5.cell? ⟨w4.heap.size, 1, none⟩ = some (.int .i64 x0.fuse) := by rw [hc5 _ _ (by simp)]; simp [go_sem]
    have c5_x0_2 : w5.cell? ⟨w4.heap.size, 2, none⟩ = some (.slice x0.filesA x0.filesN x0.filesC) := by rw [hc5 _ _ (by simp)]; simp [go_sem]
    have c5_x0_3 : w5.cell? ⟨w4.heap.size, 3, none⟩ = some (.slice x0.waitA x0.waitN x0.waitC) := by rw [hc5 _ _ (by simp)]; simp [go_sem]
    clear hc5 hf5
    have BB5 := BB4.trans (hx5.mono BB4.size)
    have sz5 := hx5.size
    have H5x0 := H4x0.below hx5
    clear H4x0
    have c5_a0_0 := cell_later hx5 c4_a0_0
    clear c4_a0_0
    have c5_a0_1 := cell_later hx5 c4_a0_1
    clear c4_a0_1
    have c5_a0_2 := cell_later hx5 c4_a0_2
    clear c4_a0_2
    have c5_a0_3 := cell_later hx5 c4_a0_3
    clear c4_a0_3
    go_wp2_with fail
    go_region_held3 (fun w' => w'.cell? ⟨w.heap.size, 0, none⟩ = some (.int .i64 y0.room) ∧ w'.cell? ⟨w.heap.size, 1, none⟩ = some (.int .i64 y0.fuse) ∧ w'.cell? ⟨w.heap.size, 2, none⟩ = some (.slice y0.filesA y0.filesN y0.filesC) ∧ w'.cell? ⟨w.heap.size, 3, none⟩ = some (.slice y0.waitA y0.waitN y0.waitC) ∧ w'.cell? ⟨w4.heap.size, 0, none⟩ = some (.int .i64 x0.room) ∧ w'.cell? ⟨w4.heap.size, 1, none⟩ = some (.int .i64 x0.fuse) ∧ w'.cell? ⟨w4.heap.size, 2, none⟩ = some (.slice x0.filesA x0.filesN x0.filesC) ∧ w'.cell? ⟨w4.heap.size, 3, none⟩ = some (.slice x0.waitA x0.waitN x0.waitC) ∧ Below w5.heap.size w5 w') (first | exact keepd8 (by assumption) | exact keep8 (by assumption) (Nat.le_refl _) (by assumption) | exact ⟨c5_a0_0, c5_a0_1, c5_a0_2, c5_a0_3, c5_x0_0, c5_x0_1, c5_x0_2, c5_x0_3, (Below.refl _ _).drew⟩) (first | (go_at_call 22; refine (toDisk_k y0 _ (rdDisk_below (goodDisk_rd g0) (BB5.trans ((tail8 (by assumption) : Below w5.heap.size w5 _).mono BB5.size)) (Nat.le_refl _)) hn0).mono ?_; rintro e wa ⟨t, rfl, hdt, Ht, hkt, hba⟩) | (go_at_call 17; refine (eqDisk_k x0 t _ _ HDx0.out hdt _ (H5x0.below (tail8 (by assumption) : Below w5.heap.size w5 _)).rd Ht.rd).mono ?_; rintro e wb ⟨rfl, hbb⟩))
    have hb6 : Below w5.heap.size w5 _ := tail8 (by assumption)
    have BB6 := BB5.trans (hb6.mono BB5.size)
    have sz6 := hb6.size
    have H6x0 := H5x0.below hb6
    clear H5x0
    have c6_a0_0 := cell_later hb6 c5_a0_0
    clear c5_a0_0
    have c6_a0_1 := cell_later hb6 c5_a0_1
    clear c5_a0_1
    have c6_a0_2 := cell_later hb6 c5_a0_2
    clear c5_a0_2
    have c6_a0_3 := cell_later hb6 c5_a0_3
    clear c5_a0_3
    have c6_x0_0 := cell_later hb6 c5_x0_0
    clear c5_x0_0
    have c6_x0_1 := cell_later hb6 c5_x0_1
    clear c5_x0_1
    have c6_x0_2 := cell_later hb6 c5_x0_2
    clear c5_x0_2
    have c6_x0_3 := cell_later hb6 c5_x0_3
    clear c5_x0_3
    skip
    go_wp2
    go_ret
    exact ⟨rfl, BB6⟩
  · have BB0 := Below.refl w.heap.size w
    have okY0 := goodDisk_ok g0
    go_enter Try.func5, Try.ntmps5
    have HL0 := Lib.hid (leftB_no (left := 1048576) (n := bulkDisk y0) (by omega))
    have ha1 := ((Below.refl w.heap.size w).alloc (Nat.le_refl _) (.cells #[.int .i64 y0.room, .int .i64 y0.fuse, .slice y0.filesA y0.filesN y0.filesC, .slice y0.waitA y0.waitN y0.waitC] 43))
    have BP1 := BB0.trans (ha1.mono BB0.size)
    go_wp2_with fail
    refine (szDisk_k y0 _ _ (rdDisk_below (goodDisk_rd g0) BP1 (Nat.le_refl _)) (goodDisk_str g0) (by omega) (by omega)).mono ?_
    rintro e w1 ⟨rfl, hb1⟩
    rw [HL0.out]
    have hx1 : Below w.heap.size w w1 := ha1.trans (hb1.mono ha1.size)
    have szz1 : w.heap.size + 1 ≤ w1.heap.size := by have := hb1.size; simp at this; omega
    obtain ⟨hc1, hf1⟩ := bcell hb1
    have c1_a0_0 : w1.cell? ⟨w.heap.size, 0, none⟩ = some (.int .i64 y0.room) := by rw [hc1 _ _ (by simp)]; simp [go_sem]
    have c1_a0_1 : w1.cell? ⟨w.heap.size, 1, none⟩ = some (.int .i64 y0.fuse) := by rw [hc1 _ _ (by simp)]; simp [go_sem]
    have c1_a0_2 : w1.cell? ⟨w.heap.size, 2, none⟩ = some (.slice y0.filesA y0.filesN y0.filesC) := by rw [hc1 _ _ (by simp)]; simp [go_sem]
    have c1_a0_3 : w1.cell? ⟨w.heap.size, 3, none⟩ = some (.slice y0.waitA y0.waitN y0.waitC) := by rw [hc1 _ _ (by simp)]; simp [go_sem]
    clear hc1 hf1
    have BB1 := BB0.trans (hx1.mono BB0.size)
    have sz1 := hx1.size
    go_wp2
    go_ret
    exact ⟨rfl, BB1⟩
end Go.Proofs.Ytoodlmhnemamhaa

/- FnExactShardOk: the walk of the law out of the contracts of what it calls. -/
import Derived.Test.YtifaekkbdmcehaaShardOkU
import Derived.Test.YtifaekkbdmcehaaKeep
namespace Go.Proofs.Ytifaekkbdmcehaa
open Go.RowKit
set_option linter.unusedVariables false in
set_option maxRecDepth 100000 in
set_option maxHeartbeats 3200000 in
theorem walk_FnExactShardOk (y0 : ShardR) (w : World) (g0 : goodShard w y0) :
    Calls Try.prog 5 #[.agg #[.int .i64 y0.lo, .int .i64 y0.hi, .slice y0.edgesA y0.edgesN y0.edgesC]] w fun e w' => e = .returned (.bool true) ∧ Below w.heap.size w w' := by
  have hb0 := (Below.refl w.heap.size w).alloc (Nat.le_refl _) (.cells #[.int .i64 y0.lo, .int .i64 y0.hi, .slice y0.edgesA y0.edgesN y0.edgesC] 42)
  by_cases hn0 : bulkShard y0 ≤ 1048576
  · have HL := Lib.hid (leftB_yes (left := 1048576) (n := bulkShard y0) (by omega))
    have okY := goodShard_ok g0
    go_enter Try.func5, Try.ntmps5
    go_wp2_with fail
    refine (szShard_u y0 _ _ (goodShard_below g0 hb0 (Nat.le_refl _)) (by omega) (by omega)).mono ?_
    rintro e w1 ⟨rfl, hb1⟩
    have BB1 := hb0.trans (hb1.mono (by simp))
    have sz1 : w.heap.size + 1 ≤ w1.heap.size := by have := hb1.size; simpa using this
    obtain ⟨hc1, hf1⟩ := bcell hb1
    have c1_a0 : w1.cell? ⟨w.heap.size, 0, none⟩ = some (.int .i64 y0.lo) := by rw [hc1 _ _ (by simp)]; simp [go_sem]
    have c1_a1 : w1.cell? ⟨w.heap.size, 1, none⟩ = some (.int .i64 y0.hi) := by rw [hc1 _ _ (by simp)]; simp [go_sem]
    have c1_a2 : w1.cell? ⟨w.heap.size, 2, none⟩ = some (.slice y0.edgesA y0.edgesN y0.edgesC) := by rw [hc1 _ _ (by simp)]; simp [go_sem]
    clear hc1 hf1
    rw [HL.out]
    go_wp2_with fail
    refine (toShard_u y0 _ (goodShard_below g0 BB1 (Nat.le_refl _)) hn0).mono ?_
    rintro e w2 ⟨u, rfl, hdu, H2u, hku, hb2⟩
    have BB2 := BB1.trans (hb2.mono BB1.size)
    have sz2 := hb2.size
    have c2_a0 := cell_later hb2 c1_a0
    clear c1_a0
    have c2_a1 := cell_later hb2 c1_a1
    clear c1_a1
    have c2_a2 := cell_later hb2 c1_a2
    clear c1_a2
    have HDu := Lib.hid hdu
    clear hdu
    have oku := okShard_dat okY HDu.out
    have HKu := Lib.hid hku
    clear hku
    go_wp2_with fail
    refine (shardOk_spec_u u (datShard y0) HDu.out _ ((H2u).good oku)).mono ?_
    rintro e w3 ⟨rfl, hb3⟩
    have BB3 := BB2.trans (hb3.mono BB2.size)
    have sz3 := hb3.size
    have H3u := H2u.below hb3
    clear H2u
    have c3_a0 := cell_later hb3 c2_a0
    clear c2_a0
    have c3_a1 := cell_later hb3 c2_a1
    clear c2_a1
    have c3_a2 := cell_later hb3 c2_a2
    clear c2_a2
    go_wp2_with fail
    refine (toShard_u y0 _ (goodShard_below g0 BB3 (Nat.le_refl _)) hn0).mono ?_
    rintro e w4 ⟨x, rfl, hdx, H4x, hkx, hb4⟩
    have BB4 := BB3.trans (hb4.mono BB3.size)
    have sz4 := hb4.size
    have c4_a0 := cell_later hb4 c3_a0
    clear c3_a0
    have c4_a1 := cell_later hb4 c3_a1
    clear c3_a1
    have c4_a2 := cell_later hb4 c3_a2
    clear c3_a2
    have HDx := Lib.hid hdx
    clear hdx
    have okx := okShard_dat okY HDx.out
    have HKx := Lib.hid hkx
    clear hkx
    go_wp2_with fail
    refine (shardOk_impl_u x (datShard y0) HDx.out _ ((H4x.below ((Below.refl _ _).alloc (Nat.le_refl _) _)).good okx)).mono ?_
    rintro e w5 ⟨rfl, hb5⟩
    have ha5 := (Below.refl w4.heap.size w4).alloc (Nat.le_refl _) (.cells #[.int .i64 x.lo, .int .i64 x.hi, .slice x.edgesA x.edgesN x.edgesC] 47)
    have hx5 : Below w4.heap.size w4 w5 := ha5.trans (hb5.mono ha5.size)
    have szz5 : w4.heap.size + 1 ≤ w5.heap.size := by have := hb5.size; simpa using this
    obtain ⟨hc5, hf5⟩ := bcell hb5
    have c5_x0 : w5.cell? ⟨w4.heap.size, 0, none⟩ = some (.int .i64 x.lo) := by rw [hc5 _ _ (by simp)]; simp [go_sem]
    have c5_x1 : w5.cell? ⟨w4.heap.size, 1, none⟩ = some (.int .i64 x.hi) := by rw [hc5 _ _ (by simp)]; simp [go_sem]
    have c5_x2 : w5.cell? ⟨w4.heap.size, 2, none⟩ = some (.slice x.edgesA x.edgesN x.edgesC) := by rw [hc5 _ _ (by simp)]; simp [go_sem]
    clear hc5 hf5
    have BB5 := BB4.trans (hx5.mono BB4.size)
    have sz5 := hx5.size
    have H5x := H4x.below hx5
    clear H4x
    have c5_a0 := cell_later hx5 c4_a0
    clear c4_a0
    have c5_a1 := cell_later hx5 c4_a1
    clear c4_a1
    have c5_a2 := cell_later hx5 c4_a2
    clear c4_a2
    go_wp2_with fail
    go_region_held3 (fun w' => w'.cell? ⟨w.heap.size, 0, none⟩ = some (.int .i64 y0.lo) ∧ w'.cell? ⟨w.heap.size, 1, none⟩ = some (.int .i64 y0.hi) ∧ w'.cell? ⟨w.heap.size, 2, none⟩ = some (.slice y0.edgesA y0.edgesN y0.edgesC) ∧ w'.cell? ⟨w4.heap.size, 0, none⟩ = some (.int .i64 x.lo) ∧ w'.cell? ⟨w4.heap.size, 1, none⟩ = some (.int .i64 x.hi) ∧ w'.cell? ⟨w4.heap.size, 2, none⟩ = some (.slice x.edgesA x.edgesN x.edgesC) ∧ Below w5.heap.size w5 w') (first | exact keepd6 (by assumption) | exact keep6 (by assumption) (Nat.le_refl _) (by assumption) | exact ⟨c5_a0, c5_a1, c5_a2, c5_x0, c5_x1, c5_x2, (Below.refl _ _).drew⟩) (first | (go_at_call 25; refine (toShard_u y0 _ (goodShard_below g0 (BB5.trans ((tail6 (by assumption) : Below w5.heap.size w5 _).mono BB5.size)) (Nat.le_refl _)) hn0).mono ?_; rintro e wa ⟨t, rfl, hdt, Ht, hkt, hba⟩) | (go_at_call 27; refine (eqShard_u x t (datShard y0) (datShard y0) HDx.out hdt _ ((H5x.below (tail6 (by assumption) : Below w5.heap.size w5 _)).good okx) (Ht.good (okShard_dat okY hdt))).mono ?_; rintro e wb ⟨rfl, hbb⟩))
    have hb6 : Below w5.heap.size w5 _ := tail6 (by assumption)
    have BB6 := BB5.trans (hb6.mono BB5.size)
    have sz6 := hb6.size
    have H6x := H5x.below hb6
    clear H5x
    have c6_a0 := cell_later hb6 c5_a0
    clear c5_a0
    have c6_a1 := cell_later hb6 c5_a1
    clear c5_a1
    have c6_a2 := cell_later hb6 c5_a2
    clear c5_a2
    have c6_x0 := cell_later hb6 c5_x0
    clear c5_x0
    have c6_x1 := cell_later hb6 c5_x1
    clear c5_x1
    have c6_x2 := cell_later hb6 c5_x2
    clear c5_x2
    go_wp2
    go_ret
    exact ⟨rfl, BB6⟩
  · have HL := Lib.hid (leftB_no (left := 1048576) (n := bulkShard y0) (by omega))
    go_enter Try.func5, Try.ntmps5
    go_wp2_with fail
    refine (szShard_u y0 _ _ (goodShard_below g0 hb0 (Nat.le_refl _)) (by omega) (by omega)).mono ?_
    rintro e w1 ⟨rfl, hb1⟩
    rw [HL.out]
    go_wp2
    go_ret
    exact ⟨rfl, hb0.trans (hb1.mono (by simp))⟩
end Go.Proofs.Ytifaekkbdmcehaa

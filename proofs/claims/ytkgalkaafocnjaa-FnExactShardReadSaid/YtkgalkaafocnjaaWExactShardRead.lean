/- FnExactShardRead: the walk of the law out of the contracts of what it calls. -/
import Derived.Test.YtkgalkaafocnjaaShardRead
import Derived.Test.YtkgalkaafocnjaaByteSK
import Derived.Test.YtkgalkaafocnjaaShardK
import Derived.Test.YtkgalkaafocnjaaKeep
import Derived.Test.YtkgalkaafocnjaaRow
namespace Go.Proofs.Ytkgalkaafocnjaa
open Go.RowKit
set_option linter.unusedVariables false in
set_option maxRecDepth 100000 in
set_option maxHeartbeats 6400000 in
theorem walk_FnExactShardRead (a0 : Option Addr) (n0 c0 : Nat) (z0 : List Int) (x1 : Int) (w : World) (r0 : Rd (encI .u8) 1 w a0 n0 c0 z0) (g0 : ∀ y ∈ z0, In8 y) (g1 : In64 x1) :
    Calls Try.prog 13 #[.slice a0 n0 c0, .int .i64 x1] w fun e w' => e = .returned (.bool true) ∧ Below w.heap.size w w' := by
  by_cases hg0 : n0 ≤ 1048576
  · have BB0 := Below.refl w.heap.size w
    have q0 : rdByteS w ⟨a0, n0, c0, z0⟩ := r0
    have hn0 : bulkByteS (⟨a0, n0, c0, z0⟩ : Row _) ≤ 1048576 := hg0
    go_enter Try.func13, Try.ntmps13
    go_wp2_with fail
    refine (toByteS_k (⟨a0, n0, c0, z0⟩ : Row _) _ (rdByteS_below q0 BB0 (Nat.le_refl _)) hn0).mono ?_
    rintro e w1 ⟨u0, rfl, hdu0, H1u0, hku0, hb1⟩
    have BB1 := BB0.trans (hb1.mono BB0.size)
    have sz1 := hb1.size
    have HDu0 := Lib.hid hdu0
    clear hdu0
    go_wp2_with fail
    refine (shardRead_spec_k u0 (datByteS (⟨a0, n0, c0, z0⟩ : Row _)) HDu0.out x1 _ H1u0.rd g0 g1 (by rw [hku0]; exact hn0)).mono ?_
    rintro e w2 ⟨W, rfl, hdW, H2W, hkW, hb2⟩
    have BB2 := BB1.trans (hb2.mono BB1.size)
    have sz2 := hb2.size
    have H2u0 := H1u0.below hb2
    clear H1u0
    have HDW := Lib.hid hdW
    clear hdW
    have ha3 := ((Below.refl w2.heap.size w2).alloc (Nat.le_refl _) (.cells #[.int .i64 W.lo, .int .i64 W.hi, .slice W.edgesA W.edgesN W.edgesC] 64))
    have BP3 := BB2.trans (ha3.mono BB2.size)
    go_wp2_with fail
    refine (toByteS_k (⟨a0, n0, c0, z0⟩ : Row _) _ (rdByteS_below q0 BP3 (Nat.le_refl _)) hn0).mono ?_
    rintro e w3 ⟨x0, rfl, hdx0, H3x0, hkx0, hb3⟩
    have hx3 : Below w2.heap.size w2 w3 := ha3.trans (hb3.mono ha3.size)
    have szz3 : w2.heap.size + 1 ≤ w3.heap.size := by have := hb3.size; simp at this; omega
    obtain ⟨hc3, hf3⟩ := bcell hb3
    have c3_W_0 : w3.cell? ⟨w2.heap.size, 0, none⟩ = some (.int .i64 W.lo) := by rw [hc3 _ _ (by simp)]; simp [go_sem]
    have c3_W_1 : w3.cell? ⟨w2.heap.size, 1, none⟩ = some (.int .i64 W.hi) := by rw [hc3 _ _ (by simp)]; simp [go_sem]
    have c3_W_2 : w3.cell? ⟨w2.heap.size, 2, none⟩ = some (.slice W.edgesA W.edgesN W.edgesC) := by rw [hc3 _ _ (by simp)]; simp [go_sem]
    clear hc3 hf3
    have BB3 := BB2.trans (hx3.mono BB2.size)
    have sz3 := hx3.size
    have H3W := H2W.below hx3
    clear H2W
    replace H3x0 := H3x0.lo_le (lo' := w2.heap.size + 1) (by simp)
    have HDx0 := Lib.hid hdx0
    clear hdx0
    go_wp2_with fail
    refine (shardRead_impl_k x0 (datByteS (⟨a0, n0, c0, z0⟩ : Row _)) HDx0.out x1 _ H3x0.rd g0 g1 (by rw [hkx0]; exact hn0)).mono ?_
    rintro e w4 ⟨G, rfl, hdG, H4G, hkG, hb4⟩
    have BB4 := BB3.trans (hb4.mono BB3.size)
    have sz4 := hb4.size
    have H4W := H3W.below hb4
    clear H3W
    have H4x0 := H3x0.below hb4
    clear H3x0
    have c4_W_0 := cell_later hb4 c3_W_0
    clear c3_W_0
    have c4_W_1 := cell_later hb4 c3_W_1
    clear c3_W_1
    have c4_W_2 := cell_later hb4 c3_W_2
    clear c3_W_2
    have HDG := Lib.hid hdG
    clear hdG
    have hl5_W_0 := World.block_lt_of_cell? _ _ c4_W_0
    simp only at hl5_W_0
    have ha5 := ((Below.refl w4.heap.size w4).alloc (Nat.le_refl _) (.cells #[.int .i64 G.lo, .int .i64 G.hi, .slice G.edgesA G.edgesN G.edgesC] 64))
    have BP5 := BB4.trans (ha5.mono BB4.size)
    go_wp2_with fail
    refine (eqShard_k G W _ _ HDG.out HDW.out _ (H4G.below ha5).rd (H4W.below ha5).rd).mono ?_
    rintro e w5 ⟨rfl, hb5⟩
    have hx5 : Below w4.heap.size w4 w5 := ha5.trans (hb5.mono ha5.size)
    have szz5 : w4.heap.size + 1 ≤ w5.heap.size := by have := hb5.size; simp at this; omega
    obtain ⟨hc5, hf5⟩ := bcell hb5
    have c5_G_0 : w5.cell? ⟨w4.heap.size, 0, none⟩ = some (.int .i64 G.lo) := by rw [hc5 _ _ (by simp)]; simp [go_sem]
    have c5_G_1 : w5.cell? ⟨w4.heap.size, 1, none⟩ = some (.int .i64 G.hi) := by rw [hc5 _ _ (by simp)]; simp [go_sem]
    have c5_G_2 : w5.cell? ⟨w4.heap.size, 2, none⟩ = some (.slice G.edgesA G.edgesN G.edgesC) := by rw [hc5 _ _ (by simp)]; simp [go_sem]
    clear hc5 hf5
    have BB5 := BB4.trans (hx5.mono BB4.size)
    have sz5 := hx5.size
    have H5W := H4W.below hx5
    clear H4W
    have H5x0 := H4x0.below hx5
    clear H4x0
    have H5G := H4G.below hx5
    clear H4G
    have c5_W_0 := cell_later hx5 c4_W_0
    clear c4_W_0
    have c5_W_1 := cell_later hx5 c4_W_1
    clear c4_W_1
    have c5_W_2 := cell_later hx5 c4_W_2
    clear c4_W_2
    go_wp2_with fail
    refine (toByteS_k (⟨a0, n0, c0, z0⟩ : Row _) _ (rdByteS_below q0 BB5 (Nat.le_refl _)) hn0).mono ?_
    rintro e w6 ⟨t0, rfl, hdt0, H6t0, hkt0, hb6⟩
    have BB6 := BB5.trans (hb6.mono BB5.size)
    have sz6 := hb6.size
    have H6W := H5W.below hb6
    clear H5W
    have H6x0 := H5x0.below hb6
    clear H5x0
    have H6G := H5G.below hb6
    clear H5G
    have c6_W_0 := cell_later hb6 c5_W_0
    clear c5_W_0
    have c6_W_1 := cell_later hb6 c5_W_1
    clear c5_W_1
    have c6_W_2 := cell_later hb6 c5_W_2
    clear c5_W_2
    have c6_G_0 := cell_later hb6 c5_G_0
    clear c5_G_0
    have c6_G_1 := cell_later hb6 c5_G_1
    clear c5_G_1
    have c6_G_2 := cell_later hb6 c5_G_2
    clear c5_G_2
    have HDt0 := Lib.hid hdt0
    clear hdt0
    go_wp2_with fail
    refine (eqByteS_k x0 t0 _ _ HDx0.out HDt0.out _ H6x0.rd H6t0.rd).mono ?_
    rintro e w7 ⟨rfl, hb7⟩
    have BB7 := BB6.trans (hb7.mono BB6.size)
    have sz7 := hb7.size
    have H7W := H6W.below hb7
    clear H6W
    have H7x0 := H6x0.below hb7
    clear H6x0
    have H7G := H6G.below hb7
    clear H6G
    have H7t0 := H6t0.below hb7
    clear H6t0
    have c7_W_0 := cell_later hb7 c6_W_0
    clear c6_W_0
    have c7_W_1 := cell_later hb7 c6_W_1
    clear c6_W_1
    have c7_W_2 := cell_later hb7 c6_W_2
    clear c6_W_2
    have c7_G_0 := cell_later hb7 c6_G_0
    clear c6_G_0
    have c7_G_1 := cell_later hb7 c6_G_1
    clear c6_G_1
    have c7_G_2 := cell_later hb7 c6_G_2
    clear c6_G_2
    replace hkx0 : bulkByteS x0 ≤ 1048576 := by rw [hkx0]; exact hn0
    have cn0 := cntByteS_own H7x0 hkx0
    go_wp2_with fail
    refine (markByteS_k x0 (1) _ _ _ H7x0 hkx0 (by omega) (by omega)).mono ?_
    rintro e w8 ⟨rfl, HE8x0, hb8⟩
    have BB8 := BB7.trans (hb8.below (B := w.heap.size) (by omega) BB7.size)
    have sz8 := hb8.size
    have H8W := H7W.win hb8 (by omega)
    clear H7W
    have H8G := H7G.win hb8 (by omega)
    clear H7G
    have c8_W_0 := cell_win hb8 c7_W_0 (by omega)
    clear c7_W_0
    have c8_W_1 := cell_win hb8 c7_W_1 (by omega)
    clear c7_W_1
    have c8_W_2 := cell_win hb8 c7_W_2 (by omega)
    clear c7_W_2
    have c8_G_0 := cell_win hb8 c7_G_0 (by omega)
    clear c7_G_0
    have c8_G_1 := cell_win hb8 c7_G_1 (by omega)
    clear c7_G_1
    have c8_G_2 := cell_win hb8 c7_G_2 (by omega)
    clear c7_G_2
    go_wp2_with fail
    refine (eqShard_k G W _ _ HDG.out HDW.out _ H8G.rd H8W.rd).mono ?_
    rintro e w9 ⟨rfl, hb9⟩
    have BB9 := BB8.trans (hb9.mono BB8.size)
    have sz9 := hb9.size
    have H9W := H8W.below hb9
    clear H8W
    have H9G := H8G.below hb9
    clear H8G
    have c9_W_0 := cell_later hb9 c8_W_0
    clear c8_W_0
    have c9_W_1 := cell_later hb9 c8_W_1
    clear c8_W_1
    have c9_W_2 := cell_later hb9 c8_W_2
    clear c8_W_2
    have c9_G_0 := cell_later hb9 c8_G_0
    clear c8_G_0
    have c9_G_1 := cell_later hb9 c8_G_1
    clear c8_G_1
    have c9_G_2 := cell_later hb9 c8_G_2
    clear c8_G_2
    go_wp2_with fail
    refine (markShard_k G (1) _ _ _ H9G hkG (by omega) (by omega)).mono ?_
    rintro e w10 ⟨rfl, HE10G, hb10⟩
    have BB10 := BB9.trans (hb10.below (B := w.heap.size) (by omega) BB9.size)
    have sz10 := hb10.size
    have H10W := H9W.win hb10 (by omega)
    clear H9W
    have c10_W_0 := cell_win hb10 c9_W_0 (by omega)
    clear c9_W_0
    have c10_W_1 := cell_win hb10 c9_W_1 (by omega)
    clear c9_W_1
    have c10_W_2 := cell_win hb10 c9_W_2 (by omega)
    clear c9_W_2
    have c10_G_0 := cell_win hb10 c9_G_0 (by omega)
    clear c9_G_0
    have c10_G_1 := cell_win hb10 c9_G_1 (by omega)
    clear c9_G_1
    have c10_G_2 := cell_win hb10 c9_G_2 (by omega)
    clear c9_G_2
    go_wp2_with fail
    refine (heldShard_k G 1 _ HE10G (by omega) (by omega)).mono ?_
    rintro e w11 ⟨rfl, hb11⟩
    have BB11 := BB10.trans (hb11.mono BB10.size)
    have sz11 := hb11.size
    have H11W := H10W.below hb11
    clear H10W
    have H11G := HE10G.below hb11
    clear HE10G
    have c11_W_0 := cell_later hb11 c10_W_0
    clear c10_W_0
    have c11_W_1 := cell_later hb11 c10_W_1
    clear c10_W_1
    have c11_W_2 := cell_later hb11 c10_W_2
    clear c10_W_2
    have c11_G_0 := cell_later hb11 c10_G_0
    clear c10_G_0
    have c11_G_1 := cell_later hb11 c10_G_1
    clear c10_G_1
    have c11_G_2 := cell_later hb11 c10_G_2
    clear c10_G_2
    go_wp2_with fail
    refine (toByteS_k (⟨a0, n0, c0, z0⟩ : Row _) _ (rdByteS_below q0 BB11 (Nat.le_refl _)) hn0).mono ?_
    rintro e w12 ⟨v0, rfl, hdv0, H12v0, hkv0, hb12⟩
    have BB12 := BB11.trans (hb12.mono BB11.size)
    have sz12 := hb12.size
    have H12W := H11W.below hb12
    clear H11W
    have H12G := H11G.below hb12
    clear H11G
    have c12_W_0 := cell_later hb12 c11_W_0
    clear c11_W_0
    have c12_W_1 := cell_later hb12 c11_W_1
    clear c11_W_1
    have c12_W_2 := cell_later hb12 c11_W_2
    clear c11_W_2
    have c12_G_0 := cell_later hb12 c11_G_0
    clear c11_G_0
    have c12_G_1 := cell_later hb12 c11_G_1
    clear c11_G_1
    have c12_G_2 := cell_later hb12 c11_G_2
    clear c11_G_2
    have HDv0 := Lib.hid hdv0
    clear hdv0
    go_wp2_with fail
    refine (shardRead_impl_k v0 (datByteS (⟨a0, n0, c0, z0⟩ : Row _)) HDv0.out x1 _ H12v0.rd g0 g1 (by rw [hkv0]; exact hn0)).mono ?_
    rintro e w13 ⟨K, rfl, hdK, H13K, hkK, hb13⟩
    have BB13 := BB12.trans (hb13.mono BB12.size)
    have sz13 := hb13.size
    have H13W := H12W.below hb13
    clear H12W
    have H13G := H12G.below hb13
    clear H12G
    have H13v0 := H12v0.below hb13
    clear H12v0
    have c13_W_0 := cell_later hb13 c12_W_0
    clear c12_W_0
    have c13_W_1 := cell_later hb13 c12_W_1
    clear c12_W_1
    have c13_W_2 := cell_later hb13 c12_W_2
    clear c12_W_2
    have c13_G_0 := cell_later hb13 c12_G_0
    clear c12_G_0
    have c13_G_1 := cell_later hb13 c12_G_1
    clear c12_G_1
    have c13_G_2 := cell_later hb13 c12_G_2
    clear c12_G_2
    have HDK := Lib.hid hdK
    clear hdK
    have hl14_W_0 := World.block_lt_of_cell? _ _ c13_W_0
    simp only at hl14_W_0
    have hl14_G_0 := World.block_lt_of_cell? _ _ c13_G_0
    simp only at hl14_G_0
    have ha14 := ((Below.refl w13.heap.size w13).alloc (Nat.le_refl _) (.cells #[.int .i64 K.lo, .int .i64 K.hi, .slice K.edgesA K.edgesN K.edgesC] 64))
    have BP14 := BB13.trans (ha14.mono BB13.size)
    go_wp2_with fail
    refine (eqShard_k K W _ _ HDK.out HDW.out _ (H13K.below ha14).rd (H13W.below ha14).rd).mono ?_
    rintro e w14 ⟨rfl, hb14⟩
    have hx14 : Below w13.heap.size w13 w14 := ha14.trans (hb14.mono ha14.size)
    have szz14 : w13.heap.size + 1 ≤ w14.heap.size := by have := hb14.size; simp at this; omega
    obtain ⟨hc14, hf14⟩ := bcell hb14
    have c14_K_0 : w14.cell? ⟨w13.heap.size, 0, none⟩ = some (.int .i64 K.lo) := by rw [hc14 _ _ (by simp)]; simp [go_sem]
    have c14_K_1 : w14.cell? ⟨w13.heap.size, 1, none⟩ = some (.int .i64 K.hi) := by rw [hc14 _ _ (by simp)]; simp [go_sem]
    have c14_K_2 : w14.cell? ⟨w13.heap.size, 2, none⟩ = some (.slice K.edgesA K.edgesN K.edgesC) := by rw [hc14 _ _ (by simp)]; simp [go_sem]
    clear hc14 hf14
    have BB14 := BB13.trans (hx14.mono BB13.size)
    have sz14 := hx14.size
    have H14W := H13W.below hx14
    clear H13W
    have H14G := H13G.below hx14
    clear H13G
    have H14K := H13K.below hx14
    clear H13K
    have c14_W_0 := cell_later hx14 c13_W_0
    clear c13_W_0
    have c14_W_1 := cell_later hx14 c13_W_1
    clear c13_W_1
    have c14_W_2 := cell_later hx14 c13_W_2
    clear c13_W_2
    have c14_G_0 := cell_later hx14 c13_G_0
    clear c13_G_0
    have c14_G_1 := cell_later hx14 c13_G_1
    clear c13_G_1
    have c14_G_2 := cell_later hx14 c13_G_2
    clear c13_G_2
    go_wp2_with fail
    refine (heldShard_k G 1 _ H14G (by omega) (by omega)).mono ?_
    rintro e w15 ⟨rfl, hb15⟩
    have BB15 := BB14.trans (hb15.mono BB14.size)
    have sz15 := hb15.size
    have H15W := H14W.below hb15
    clear H14W
    have H15G := H14G.below hb15
    clear H14G
    have c15_W_0 := cell_later hb15 c14_W_0
    clear c14_W_0
    have c15_W_1 := cell_later hb15 c14_W_1
    clear c14_W_1
    have c15_W_2 := cell_later hb15 c14_W_2
    clear c14_W_2
    have c15_G_0 := cell_later hb15 c14_G_0
    clear c14_G_0
    have c15_G_1 := cell_later hb15 c14_G_1
    clear c14_G_1
    have c15_G_2 := cell_later hb15 c14_G_2
    clear c14_G_2
    go_wp2
    go_ret
    exact ⟨rfl, BB15⟩
  · have BB0 := Below.refl w.heap.size w
    have q0 : rdByteS w ⟨a0, n0, c0, z0⟩ := r0
    go_enter Try.func13, Try.ntmps13
    go_wp2
    go_ret
    exact ⟨rfl, BB0⟩
end Go.Proofs.Ytkgalkaafocnjaa

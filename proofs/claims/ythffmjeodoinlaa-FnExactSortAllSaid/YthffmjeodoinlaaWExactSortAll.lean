/- FnExactSortAll: the walk of the law out of the contracts of what it calls. -/
import Derived.Test.YthffmjeodoinlaaSortAll
import Derived.Test.YthffmjeodoinlaaRecSK
import Derived.Test.YthffmjeodoinlaaKeep
import Derived.Test.YthffmjeodoinlaaRow
namespace Go.Proofs.Ythffmjeodoinlaa
open Go.RowKit
set_option linter.unusedVariables false in
set_option maxRecDepth 100000 in
set_option maxHeartbeats 6400000 in
theorem walk_FnExactSortAll (a0 : Option Addr) (n0 c0 : Nat) (z0 : List RecR) (x1 : Int) (w : World) (r0 : Rd encRec 3 w a0 n0 c0 z0) (g0 : ∀ y ∈ z0, (goodRec w) y) (g1 : In64 x1) :
    Calls Try.prog 5 #[.slice a0 n0 c0, .int .i64 x1] w fun e w' => e = .returned (.bool true) ∧ Below w.heap.size w w' := by
  by_cases hg0 : bulkRecS (⟨a0, n0, c0, z0⟩ : Row _) ≤ 1048576
  · have BB0 := Below.refl w.heap.size w
    have q0 : rdRecS w ⟨a0, n0, c0, z0⟩ := r0
    have hn0 : bulkRecS (⟨a0, n0, c0, z0⟩ : Row _) ≤ 1048576 := by omega
    go_enter Try.func5, Try.ntmps5
    have HL0 := Lib.hid (leftB_yes (left := 1048576) (n := bulkRecS (⟨a0, n0, c0, z0⟩ : Row _)) (by omega))
    go_wp2_with fail
    refine (szRecS_k (⟨a0, n0, c0, z0⟩ : Row _) _ _ (rdRecS_below q0 BB0 (Nat.le_refl _)) (by omega) (by omega)).mono ?_
    rintro e w1 ⟨rfl, hb1⟩
    rw [HL0.out]
    have BB1 := BB0.trans (hb1.mono BB0.size)
    have sz1 := hb1.size
    go_wp2_with fail
    refine (toRecS_k (⟨a0, n0, c0, z0⟩ : Row _) _ (rdRecS_below q0 BB1 (Nat.le_refl _)) hn0).mono ?_
    rintro e w2 ⟨u0, rfl, hdu0, H2u0, hku0, hb2⟩
    have BB2 := BB1.trans (hb2.mono BB1.size)
    have sz2 := hb2.size
    have HDu0 := Lib.hid hdu0
    clear hdu0
    go_wp2_with fail
    refine (sortAll_spec_k u0 (datRecS (⟨a0, n0, c0, z0⟩ : Row _)) HDu0.out x1 _ H2u0.rd (by rw [hku0]; exact hn0) g1).mono ?_
    rintro e w3 ⟨W, rfl, hdW, H3W, hkW, hb3⟩
    have BB3 := BB2.trans (hb3.mono BB2.size)
    have sz3 := hb3.size
    have H3u0 := H2u0.below hb3
    clear H2u0
    have HDW := Lib.hid hdW
    clear hdW
    go_wp2_with fail
    refine (toRecS_k (⟨a0, n0, c0, z0⟩ : Row _) _ (rdRecS_below q0 BB3 (Nat.le_refl _)) hn0).mono ?_
    rintro e w4 ⟨x0, rfl, hdx0, H4x0, hkx0, hb4⟩
    have BB4 := BB3.trans (hb4.mono BB3.size)
    have sz4 := hb4.size
    have H4W := H3W.below hb4
    clear H3W
    have HDx0 := Lib.hid hdx0
    clear hdx0
    go_wp2_with fail
    refine (sortAll_impl_k x0 (datRecS (⟨a0, n0, c0, z0⟩ : Row _)) HDx0.out x1 _ H4x0.rd (by rw [hkx0]; exact hn0) g1).mono ?_
    rintro e w5 ⟨G, rfl, hdG, H5G, hkG, hb5⟩
    have BB5 := BB4.trans (hb5.mono BB4.size)
    have sz5 := hb5.size
    have H5W := H4W.below hb5
    clear H4W
    have H5x0 := H4x0.below hb5
    clear H4x0
    have HDG := Lib.hid hdG
    clear hdG
    go_wp2_with fail
    refine (eqRecS_k G W _ _ HDG.out HDW.out _ H5G.rd H5W.rd).mono ?_
    rintro e w6 ⟨rfl, hb6⟩
    have BB6 := BB5.trans (hb6.mono BB5.size)
    have sz6 := hb6.size
    have H6W := H5W.below hb6
    clear H5W
    have H6x0 := H5x0.below hb6
    clear H5x0
    have H6G := H5G.below hb6
    clear H5G
    go_wp2_with fail
    refine (toRecS_k (⟨a0, n0, c0, z0⟩ : Row _) _ (rdRecS_below q0 BB6 (Nat.le_refl _)) hn0).mono ?_
    rintro e w7 ⟨t0, rfl, hdt0, H7t0, hkt0, hb7⟩
    have BB7 := BB6.trans (hb7.mono BB6.size)
    have sz7 := hb7.size
    have H7W := H6W.below hb7
    clear H6W
    have H7x0 := H6x0.below hb7
    clear H6x0
    have H7G := H6G.below hb7
    clear H6G
    have HDt0 := Lib.hid hdt0
    clear hdt0
    go_wp2_with fail
    refine (eqRecS_k x0 t0 _ _ HDx0.out HDt0.out _ H7x0.rd H7t0.rd).mono ?_
    rintro e w8 ⟨rfl, hb8⟩
    have BB8 := BB7.trans (hb8.mono BB7.size)
    have sz8 := hb8.size
    have H8W := H7W.below hb8
    clear H7W
    have H8x0 := H7x0.below hb8
    clear H7x0
    have H8G := H7G.below hb8
    clear H7G
    have H8t0 := H7t0.below hb8
    clear H7t0
    replace hkx0 : bulkRecS x0 ≤ 1048576 := by rw [hkx0]; exact hn0
    have cn0 := cntRecS_own H8x0 hkx0
    go_wp2_with fail
    refine (markRecS_k x0 (1) _ _ _ H8x0 hkx0 (by omega) (by omega)).mono ?_
    rintro e w9 ⟨rfl, HE9x0, hb9⟩
    have BB9 := BB8.trans (hb9.below (B := w.heap.size) (by omega) BB8.size)
    have sz9 := hb9.size
    have H9W := H8W.win hb9 (by omega)
    clear H8W
    have H9G := H8G.win hb9 (by omega)
    clear H8G
    go_wp2_with fail
    refine (eqRecS_k G W _ _ HDG.out HDW.out _ H9G.rd H9W.rd).mono ?_
    rintro e w10 ⟨rfl, hb10⟩
    have BB10 := BB9.trans (hb10.mono BB9.size)
    have sz10 := hb10.size
    have H10W := H9W.below hb10
    clear H9W
    have H10G := H9G.below hb10
    clear H9G
    go_wp2_with fail
    refine (markRecS_k G (1) _ _ _ H10G hkG (by omega) (by omega)).mono ?_
    rintro e w11 ⟨rfl, HE11G, hb11⟩
    have BB11 := BB10.trans (hb11.below (B := w.heap.size) (by omega) BB10.size)
    have sz11 := hb11.size
    have H11W := H10W.win hb11 (by omega)
    clear H10W
    go_wp2_with fail
    refine (heldRecS_k G 1 _ HE11G (by omega) (by omega)).mono ?_
    rintro e w12 ⟨rfl, hb12⟩
    have BB12 := BB11.trans (hb12.mono BB11.size)
    have sz12 := hb12.size
    have H12W := H11W.below hb12
    clear H11W
    have H12G := HE11G.below hb12
    clear HE11G
    go_wp2_with fail
    refine (toRecS_k (⟨a0, n0, c0, z0⟩ : Row _) _ (rdRecS_below q0 BB12 (Nat.le_refl _)) hn0).mono ?_
    rintro e w13 ⟨v0, rfl, hdv0, H13v0, hkv0, hb13⟩
    have BB13 := BB12.trans (hb13.mono BB12.size)
    have sz13 := hb13.size
    have H13W := H12W.below hb13
    clear H12W
    have H13G := H12G.below hb13
    clear H12G
    have HDv0 := Lib.hid hdv0
    clear hdv0
    go_wp2_with fail
    refine (sortAll_impl_k v0 (datRecS (⟨a0, n0, c0, z0⟩ : Row _)) HDv0.out x1 _ H13v0.rd (by rw [hkv0]; exact hn0) g1).mono ?_
    rintro e w14 ⟨K, rfl, hdK, H14K, hkK, hb14⟩
    have BB14 := BB13.trans (hb14.mono BB13.size)
    have sz14 := hb14.size
    have H14W := H13W.below hb14
    clear H13W
    have H14G := H13G.below hb14
    clear H13G
    have H14v0 := H13v0.below hb14
    clear H13v0
    have HDK := Lib.hid hdK
    clear hdK
    go_wp2_with fail
    refine (eqRecS_k K W _ _ HDK.out HDW.out _ H14K.rd H14W.rd).mono ?_
    rintro e w15 ⟨rfl, hb15⟩
    have BB15 := BB14.trans (hb15.mono BB14.size)
    have sz15 := hb15.size
    have H15W := H14W.below hb15
    clear H14W
    have H15G := H14G.below hb15
    clear H14G
    have H15K := H14K.below hb15
    clear H14K
    go_wp2_with fail
    refine (heldRecS_k G 1 _ H15G (by omega) (by omega)).mono ?_
    rintro e w16 ⟨rfl, hb16⟩
    have BB16 := BB15.trans (hb16.mono BB15.size)
    have sz16 := hb16.size
    have H16W := H15W.below hb16
    clear H15W
    have H16G := H15G.below hb16
    clear H15G
    go_wp2
    go_ret
    exact ⟨rfl, BB16⟩
  · have BB0 := Below.refl w.heap.size w
    have q0 : rdRecS w ⟨a0, n0, c0, z0⟩ := r0
    go_enter Try.func5, Try.ntmps5
    have HL0 := Lib.hid (leftB_no (left := 1048576) (n := bulkRecS (⟨a0, n0, c0, z0⟩ : Row _)) (by omega))
    go_wp2_with fail
    refine (szRecS_k (⟨a0, n0, c0, z0⟩ : Row _) _ _ (rdRecS_below q0 BB0 (Nat.le_refl _)) (by omega) (by omega)).mono ?_
    rintro e w1 ⟨rfl, hb1⟩
    rw [HL0.out]
    have BB1 := BB0.trans (hb1.mono BB0.size)
    have sz1 := hb1.size
    go_wp2
    go_ret
    exact ⟨rfl, BB1⟩
end Go.Proofs.Ythffmjeodoinlaa

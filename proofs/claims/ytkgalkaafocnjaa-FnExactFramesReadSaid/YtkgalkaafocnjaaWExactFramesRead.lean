/- FnExactFramesRead: the walk of the law out of the contracts of what it calls. -/
import Derived.Test.YtkgalkaafocnjaaFramesRead
import Derived.Test.YtkgalkaafocnjaaByteSK
import Derived.Test.YtkgalkaafocnjaaFrameSK
import Derived.Test.YtkgalkaafocnjaaKeep
import Derived.Test.YtkgalkaafocnjaaRow
namespace Go.Proofs.Ytkgalkaafocnjaa
open Go.RowKit
set_option linter.unusedVariables false in
set_option maxRecDepth 100000 in
set_option maxHeartbeats 6400000 in
theorem walk_FnExactFramesRead (a0 : Option Addr) (n0 c0 : Nat) (z0 : List Int) (w : World) (r0 : Rd (encI .u8) 1 w a0 n0 c0 z0) (g0 : ∀ y ∈ z0, In8 y) :
    Calls Try.prog 10 #[.slice a0 n0 c0] w fun e w' => e = .returned (.bool true) ∧ Below w.heap.size w w' := by
  by_cases hg0 : n0 ≤ 1048576
  · have BB0 := Below.refl w.heap.size w
    have q0 : rdByteS w ⟨a0, n0, c0, z0⟩ := r0
    have hn0 : bulkByteS (⟨a0, n0, c0, z0⟩ : Row _) ≤ 1048576 := hg0
    go_enter Try.func10, Try.ntmps10
    go_wp2_with fail
    refine (toByteS_k (⟨a0, n0, c0, z0⟩ : Row _) _ (rdByteS_below q0 BB0 (Nat.le_refl _)) hn0).mono ?_
    rintro e w1 ⟨u0, rfl, hdu0, H1u0, hku0, hb1⟩
    have BB1 := BB0.trans (hb1.mono BB0.size)
    have sz1 := hb1.size
    have HDu0 := Lib.hid hdu0
    clear hdu0
    go_wp2_with fail
    refine (framesRead_spec_k u0 (datByteS (⟨a0, n0, c0, z0⟩ : Row _)) HDu0.out _ H1u0.rd g0 (by rw [hku0]; exact hn0)).mono ?_
    rintro e w2 ⟨W, rfl, hdW, H2W, hkW, hb2⟩
    have BB2 := BB1.trans (hb2.mono BB1.size)
    have sz2 := hb2.size
    have H2u0 := H1u0.below hb2
    clear H1u0
    have HDW := Lib.hid hdW
    clear hdW
    go_wp2_with fail
    refine (toByteS_k (⟨a0, n0, c0, z0⟩ : Row _) _ (rdByteS_below q0 BB2 (Nat.le_refl _)) hn0).mono ?_
    rintro e w3 ⟨x0, rfl, hdx0, H3x0, hkx0, hb3⟩
    have BB3 := BB2.trans (hb3.mono BB2.size)
    have sz3 := hb3.size
    have H3W := H2W.below hb3
    clear H2W
    have HDx0 := Lib.hid hdx0
    clear hdx0
    go_wp2_with fail
    refine (framesRead_impl_k x0 (datByteS (⟨a0, n0, c0, z0⟩ : Row _)) HDx0.out _ H3x0.rd g0 (by rw [hkx0]; exact hn0)).mono ?_
    rintro e w4 ⟨G, rfl, hdG, H4G, hkG, hb4⟩
    have BB4 := BB3.trans (hb4.mono BB3.size)
    have sz4 := hb4.size
    have H4W := H3W.below hb4
    clear H3W
    have H4x0 := H3x0.below hb4
    clear H3x0
    have HDG := Lib.hid hdG
    clear hdG
    go_wp2_with fail
    refine (eqFrameS_k G W _ _ HDG.out HDW.out _ H4G.rd H4W.rd).mono ?_
    rintro e w5 ⟨rfl, hb5⟩
    have BB5 := BB4.trans (hb5.mono BB4.size)
    have sz5 := hb5.size
    have H5W := H4W.below hb5
    clear H4W
    have H5x0 := H4x0.below hb5
    clear H4x0
    have H5G := H4G.below hb5
    clear H4G
    go_wp2_with fail
    refine (toByteS_k (⟨a0, n0, c0, z0⟩ : Row _) _ (rdByteS_below q0 BB5 (Nat.le_refl _)) hn0).mono ?_
    rintro e w6 ⟨t0, rfl, hdt0, H6t0, hkt0, hb6⟩
    have BB6 := BB5.trans (hb6.mono BB5.size)
    have sz6 := hb6.size
    have H6W := H5W.below hb6
    clear H5W
    have H6x0 := H5x0.below hb6
    clear H5x0
    have H6G := H5G.below hb6
    clear H5G
    have HDt0 := Lib.hid hdt0
    clear hdt0
    go_wp2_with fail
    refine (eqByteS_k x0 t0 _ _ HDx0.out HDt0.out _ H6x0.rd H6t0.rd).mono ?_
    rintro e w7 ⟨rfl, hb7⟩
    have BB7 := BB6.trans (hb7.mono BB6.size)
    have sz7 := hb7.size
    have H7W := H6W.below hb7
    clear H6W
    have H7x0 := H6x0.below hb7
    clear H6x0
    have H7G := H6G.below hb7
    clear H6G
    have H7t0 := H6t0.below hb7
    clear H6t0
    replace hkx0 : bulkByteS x0 ≤ 1048576 := by rw [hkx0]; exact hn0
    have cn0 := cntByteS_own H7x0 hkx0
    go_wp2_with fail
    refine (markByteS_k x0 (1) _ _ _ H7x0 hkx0 (by omega) (by omega)).mono ?_
    rintro e w8 ⟨rfl, HE8x0, hb8⟩
    have BB8 := BB7.trans (hb8.below (B := w.heap.size) (by omega) BB7.size)
    have sz8 := hb8.size
    have H8W := H7W.win hb8 (by omega)
    clear H7W
    have H8G := H7G.win hb8 (by omega)
    clear H7G
    go_wp2_with fail
    refine (eqFrameS_k G W _ _ HDG.out HDW.out _ H8G.rd H8W.rd).mono ?_
    rintro e w9 ⟨rfl, hb9⟩
    have BB9 := BB8.trans (hb9.mono BB8.size)
    have sz9 := hb9.size
    have H9W := H8W.below hb9
    clear H8W
    have H9G := H8G.below hb9
    clear H8G
    go_wp2_with fail
    refine (markFrameS_k G (1) _ _ _ H9G hkG (by omega) (by omega)).mono ?_
    rintro e w10 ⟨rfl, HE10G, hb10⟩
    have BB10 := BB9.trans (hb10.below (B := w.heap.size) (by omega) BB9.size)
    have sz10 := hb10.size
    have H10W := H9W.win hb10 (by omega)
    clear H9W
    go_wp2_with fail
    refine (heldFrameS_k G 1 _ HE10G (by omega) (by omega)).mono ?_
    rintro e w11 ⟨rfl, hb11⟩
    have BB11 := BB10.trans (hb11.mono BB10.size)
    have sz11 := hb11.size
    have H11W := H10W.below hb11
    clear H10W
    have H11G := HE10G.below hb11
    clear HE10G
    go_wp2_with fail
    refine (toByteS_k (⟨a0, n0, c0, z0⟩ : Row _) _ (rdByteS_below q0 BB11 (Nat.le_refl _)) hn0).mono ?_
    rintro e w12 ⟨v0, rfl, hdv0, H12v0, hkv0, hb12⟩
    have BB12 := BB11.trans (hb12.mono BB11.size)
    have sz12 := hb12.size
    have H12W := H11W.below hb12
    clear H11W
    have H12G := H11G.below hb12
    clear H11G
    have HDv0 := Lib.hid hdv0
    clear hdv0
    go_wp2_with fail
    refine (framesRead_impl_k v0 (datByteS (⟨a0, n0, c0, z0⟩ : Row _)) HDv0.out _ H12v0.rd g0 (by rw [hkv0]; exact hn0)).mono ?_
    rintro e w13 ⟨K, rfl, hdK, H13K, hkK, hb13⟩
    have BB13 := BB12.trans (hb13.mono BB12.size)
    have sz13 := hb13.size
    have H13W := H12W.below hb13
    clear H12W
    have H13G := H12G.below hb13
    clear H12G
    have H13v0 := H12v0.below hb13
    clear H12v0
    have HDK := Lib.hid hdK
    clear hdK
    go_wp2_with fail
    refine (eqFrameS_k K W _ _ HDK.out HDW.out _ H13K.rd H13W.rd).mono ?_
    rintro e w14 ⟨rfl, hb14⟩
    have BB14 := BB13.trans (hb14.mono BB13.size)
    have sz14 := hb14.size
    have H14W := H13W.below hb14
    clear H13W
    have H14G := H13G.below hb14
    clear H13G
    have H14K := H13K.below hb14
    clear H13K
    go_wp2_with fail
    refine (heldFrameS_k G 1 _ H14G (by omega) (by omega)).mono ?_
    rintro e w15 ⟨rfl, hb15⟩
    have BB15 := BB14.trans (hb15.mono BB14.size)
    have sz15 := hb15.size
    have H15W := H14W.below hb15
    clear H14W
    have H15G := H14G.below hb15
    clear H14G
    go_wp2
    go_ret
    exact ⟨rfl, BB15⟩
  · have BB0 := Below.refl w.heap.size w
    have q0 : rdByteS w ⟨a0, n0, c0, z0⟩ := r0
    go_enter Try.func10, Try.ntmps10
    go_wp2
    go_ret
    exact ⟨rfl, BB0⟩
end Go.Proofs.Ytkgalkaafocnjaa

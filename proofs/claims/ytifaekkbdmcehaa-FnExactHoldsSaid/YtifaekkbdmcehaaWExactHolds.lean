/- FnExactHolds: the walk of the law out of the contracts of what it calls. -/
import Derived.Test.YtifaekkbdmcehaaHolds
import Derived.Test.YtifaekkbdmcehaaIntM
import Derived.Test.YtifaekkbdmcehaaGraphM
import Derived.Test.YtifaekkbdmcehaaKeep
namespace Go.Proofs.Ytifaekkbdmcehaa
open Go.RowKit
set_option linter.unusedVariables false in
set_option maxRecDepth 100000 in
set_option maxHeartbeats 3200000 in
theorem walk_FnExactHolds (y0 : GraphR) (a1 : Option Addr) (n1 c1 : Nat) (z1 : List Int) (w : World) (g0 : goodGraph w y0) (r1 : Rd (encI .i64) 1 w a1 n1 c1 z1) (g1 : ∀ y ∈ z1, In64 y) :
    Calls Try.prog 11 #[.agg #[.int .i64 y0.n, .slice y0.edgesA y0.edgesN y0.edgesC], .slice a1 n1 c1] w fun e w' => e = .returned (.bool true) ∧ Below w.heap.size w w' := by
  have hb0 := (Below.refl w.heap.size w).alloc (Nat.le_refl _) (.cells #[.int .i64 y0.n, .slice y0.edgesA y0.edgesN y0.edgesC] 31)
  by_cases hn0 : n1 ≤ 1048576
  · by_cases hn1 : bulkGraph y0 ≤ 1048576
    · have HL := Lib.hid (leftB_yes (left := 1048576) (n := bulkGraph y0) (by omega))
      have okY := goodGraph_ok g0
      have hL1 := Lib.hid r1.len
      go_enter Try.func11, Try.ntmps11
      go_wp2_with fail
      refine (szGraph_u y0 _ _ (goodGraph_below g0 hb0 (Nat.le_refl _)) (by omega) (by omega)).mono ?_
      rintro e w1 ⟨rfl, hb1⟩
      have BB1 := hb0.trans (hb1.mono (by simp))
      have sz1 : w.heap.size + 1 ≤ w1.heap.size := by have := hb1.size; simpa using this
      obtain ⟨hc1, hf1⟩ := bcell hb1
      have c1_a0 : w1.cell? ⟨w.heap.size, 0, none⟩ = some (.int .i64 y0.n) := by rw [hc1 _ _ (by simp)]; simp [go_sem]
      have c1_a1 : w1.cell? ⟨w.heap.size, 1, none⟩ = some (.slice y0.edgesA y0.edgesN y0.edgesC) := by rw [hc1 _ _ (by simp)]; simp [go_sem]
      clear hc1 hf1
      rw [HL.out]
      go_wp2_with fail
      refine (toGraph_u y0 _ (goodGraph_below g0 BB1 (Nat.le_refl _)) hn1).mono ?_
      rintro e w2 ⟨u, rfl, hdu, H2u, hku, hb2⟩
      have BB2 := BB1.trans (hb2.mono BB1.size)
      have sz2 := hb2.size
      have c2_a0 := cell_later hb2 c1_a0
      clear c1_a0
      have c2_a1 := cell_later hb2 c1_a1
      clear c1_a1
      have HDu := Lib.hid hdu
      clear hdu
      have oku := okGraph_dat okY HDu.out
      have HKu := Lib.hid hku
      clear hku
      go_wp2_with fail
      refine (toIntS_any _ _ _ z1 _ (r1.below BB2 (Nat.le_refl _)) hn0).mono ?_
      rintro e w3 ⟨q3, rfl, H3u1, hb3⟩
      have BB3 := BB2.trans (hb3.mono BB2.size)
      have sz3 := hb3.size
      have H3u := H2u.below hb3
      clear H2u
      have c3_a0 := cell_later hb3 c2_a0
      clear c2_a0
      have c3_a1 := cell_later hb3 c2_a1
      clear c2_a1
      go_wp2_with fail
      refine (holds_spec_u u (datGraph y0) HDu.out _ _ _ z1 _ ((H3u).good oku) (H3u1).rd (by omega)).mono ?_
      rintro e w4 ⟨Wa, Wn, Wc, rfl, H4W, hb4⟩
      have BB4 := BB3.trans (hb4.mono BB3.size)
      have sz4 := hb4.size
      have H4u := H3u.below hb4
      clear H3u
      have H4u1 := H3u1.below hb4
      clear H3u1
      have c4_a0 := cell_later hb4 c3_a0
      clear c3_a0
      have c4_a1 := cell_later hb4 c3_a1
      clear c3_a1
      go_wp2_with fail
      refine (toGraph_u y0 _ (goodGraph_below g0 BB4 (Nat.le_refl _)) hn1).mono ?_
      rintro e w5 ⟨x, rfl, hdx, H5x, hkx, hb5⟩
      have BB5 := BB4.trans (hb5.mono BB4.size)
      have sz5 := hb5.size
      have H5W := H4W.below hb5
      clear H4W
      have c5_a0 := cell_later hb5 c4_a0
      clear c4_a0
      have c5_a1 := cell_later hb5 c4_a1
      clear c4_a1
      have HDx := Lib.hid hdx
      clear hdx
      have okx := okGraph_dat okY HDx.out
      have HKx := Lib.hid hkx
      clear hkx
      go_wp2_with fail
      refine (toIntS_any _ _ _ z1 _ (r1.below (BB5.alloc BB5.size _) (Nat.le_refl _)) hn0).mono ?_
      rintro e w6 ⟨q6, rfl, H6x1, hb6⟩
      have ha6 := (Below.refl w5.heap.size w5).alloc (Nat.le_refl _) (.cells #[.int .i64 x.n, .slice x.edgesA x.edgesN x.edgesC] 36)
      have hx6 : Below w5.heap.size w5 w6 := ha6.trans (hb6.mono ha6.size)
      have szz6 : w5.heap.size + 1 ≤ w6.heap.size := by have := hb6.size; simpa using this
      obtain ⟨hc6, hf6⟩ := bcell hb6
      have c6_x0 : w6.cell? ⟨w5.heap.size, 0, none⟩ = some (.int .i64 x.n) := by rw [hc6 _ _ (by simp)]; simp [go_sem]
      have c6_x1 : w6.cell? ⟨w5.heap.size, 1, none⟩ = some (.slice x.edgesA x.edgesN x.edgesC) := by rw [hc6 _ _ (by simp)]; simp [go_sem]
      clear hc6 hf6
      replace H6x1 := H6x1.lo_le (lo' := w5.heap.size + 1) (by simp)
      have BB6 := BB5.trans (hx6.mono BB5.size)
      have sz6 := hx6.size
      have H6W := H5W.below hx6
      clear H5W
      have H6x := H5x.below hx6
      clear H5x
      have c6_a0 := cell_later hx6 c5_a0
      clear c5_a0
      have c6_a1 := cell_later hx6 c5_a1
      clear c5_a1
      go_wp2_with fail
      refine (holds_impl_u x (datGraph y0) HDx.out _ _ _ z1 _ ((H6x).good okx) (H6x1).rd (by omega)).mono ?_
      rintro e w7 ⟨Ga, Gn, Gc, rfl, H7G, hb7⟩
      have BB7 := BB6.trans (hb7.mono BB6.size)
      have sz7 := hb7.size
      have H7W := H6W.below hb7
      clear H6W
      have H7x := H6x.below hb7
      clear H6x
      have H7x1 := H6x1.below hb7
      clear H6x1
      have c7_a0 := cell_later hb7 c6_a0
      clear c6_a0
      have c7_a1 := cell_later hb7 c6_a1
      clear c6_a1
      have c7_x0 := cell_later hb7 c6_x0
      clear c6_x0
      have c7_x1 := cell_later hb7 c6_x1
      clear c6_x1
      go_wp2_with fail
      refine (eqIntS_any _ _ _ _ _ _ _ _ _ H7G.rd H7W.rd).mono ?_
      rintro e w8 ⟨rfl, hb8⟩
      have BB8 := BB7.trans (hb8.mono BB7.size)
      have sz8 := hb8.size
      have H8W := H7W.below hb8
      clear H7W
      have H8x := H7x.below hb8
      clear H7x
      have H8x1 := H7x1.below hb8
      clear H7x1
      have H8G := H7G.below hb8
      clear H7G
      have c8_a0 := cell_later hb8 c7_a0
      clear c7_a0
      have c8_a1 := cell_later hb8 c7_a1
      clear c7_a1
      have c8_x0 := cell_later hb8 c7_x0
      clear c7_x0
      have c8_x1 := cell_later hb8 c7_x1
      clear c7_x1
      go_wp2_with fail
      go_region_held3 (fun w' => w'.cell? ⟨w.heap.size, 0, none⟩ = some (.int .i64 y0.n) ∧ w'.cell? ⟨w.heap.size, 1, none⟩ = some (.slice y0.edgesA y0.edgesN y0.edgesC) ∧ w'.cell? ⟨w5.heap.size, 0, none⟩ = some (.int .i64 x.n) ∧ w'.cell? ⟨w5.heap.size, 1, none⟩ = some (.slice x.edgesA x.edgesN x.edgesC) ∧ Below w8.heap.size w8 w') (first | exact keepd4 (by assumption) | exact keep4 (by assumption) (Nat.le_refl _) (by assumption) | exact ⟨c8_a0, c8_a1, c8_x0, c8_x1, (Below.refl _ _).drew⟩) (first | (go_at_call 20; refine (toGraph_u y0 _ (goodGraph_below g0 (BB8.trans ((tail4 (by assumption) : Below w8.heap.size w8 _).mono BB8.size)) (Nat.le_refl _)) hn1).mono ?_; rintro e wa ⟨t, rfl, hdt, Ht, hkt, hba⟩) | (go_at_call 22; refine (eqGraph_u x t (datGraph y0) (datGraph y0) HDx.out hdt _ ((H8x.below (tail4 (by assumption) : Below w8.heap.size w8 _)).good okx) (Ht.good (okGraph_dat okY hdt))).mono ?_; rintro e wb ⟨rfl, hbb⟩))
      have hb9 : Below w8.heap.size w8 _ := tail4 (by assumption)
      have BB9 := BB8.trans (hb9.mono BB8.size)
      have sz9 := hb9.size
      have H9W := H8W.below hb9
      clear H8W
      have H9x := H8x.below hb9
      clear H8x
      have H9x1 := H8x1.below hb9
      clear H8x1
      have H9G := H8G.below hb9
      clear H8G
      have c9_a0 := cell_later hb9 c8_a0
      clear c8_a0
      have c9_a1 := cell_later hb9 c8_a1
      clear c8_a1
      have c9_x0 := cell_later hb9 c8_x0
      clear c8_x0
      have c9_x1 := cell_later hb9 c8_x1
      clear c8_x1
      go_wp2_with fail
      refine (toIntS_any _ _ _ z1 _ (r1.below BB9 (Nat.le_refl _)) hn0).mono ?_
      rintro e w10 ⟨q10, rfl, H10t1, hb10⟩
      have BB10 := BB9.trans (hb10.mono BB9.size)
      have sz10 := hb10.size
      have H10W := H9W.below hb10
      clear H9W
      have H10x := H9x.below hb10
      clear H9x
      have H10x1 := H9x1.below hb10
      clear H9x1
      have H10G := H9G.below hb10
      clear H9G
      have c10_a0 := cell_later hb10 c9_a0
      clear c9_a0
      have c10_a1 := cell_later hb10 c9_a1
      clear c9_a1
      have c10_x0 := cell_later hb10 c9_x0
      clear c9_x0
      have c10_x1 := cell_later hb10 c9_x1
      clear c9_x1
      go_wp2_with fail
      refine (eqIntS_any _ _ _ _ _ _ _ _ _ H10x1.rd H10t1.rd).mono ?_
      rintro e w11 ⟨rfl, hb11⟩
      have BB11 := BB10.trans (hb11.mono BB10.size)
      have sz11 := hb11.size
      have H11W := H10W.below hb11
      clear H10W
      have H11x := H10x.below hb11
      clear H10x
      have H11x1 := H10x1.below hb11
      clear H10x1
      have H11G := H10G.below hb11
      clear H10G
      have H11t1 := H10t1.below hb11
      clear H10t1
      have c11_a0 := cell_later hb11 c10_a0
      clear c10_a0
      have c11_a1 := cell_later hb11 c10_a1
      clear c10_a1
      have c11_x0 := cell_later hb11 c10_x0
      clear c10_x0
      have c11_x1 := cell_later hb11 c10_x1
      clear c10_x1
      go_wp2_with fail
      refine (markGraph_u x _ _ _ _ H11x (by rw [HKx.out]; omega) (by omega) (by omega)).mono ?_
      rintro e w12 ⟨xm, rfl, hxm, H12x, hb12⟩
      have BB12 := BB11.trans (hb12.below (B := w.heap.size) (by omega) BB11.size)
      have sz12 := hb12.size
      have H12W := H11W.win hb12 (by omega)
      clear H11W
      have H12x1 := H11x1.win hb12 (by omega)
      clear H11x1
      have H12G := H11G.win hb12 (by omega)
      clear H11G
      have c12_a0 := cell_win hb12 c11_a0 (by omega)
      clear c11_a0
      have c12_a1 := cell_win hb12 c11_a1 (by omega)
      clear c11_a1
      have c12_x0 := cell_win hb12 c11_x0 (by omega)
      clear c11_x0
      have c12_x1 := cell_win hb12 c11_x1 (by omega)
      clear c11_x1
      clear hxm
      rw [HKx.out]
      go_wp2_with fail
      refine (markIntS_any _ _ _ _ _ _ _ _ H12x1 (by omega) (by omega)).mono ?_
      rintro e w13 ⟨rfl, H13x1, hb13⟩
      have BB13 := BB12.trans (hb13.below (B := w.heap.size) (by omega) BB12.size)
      have sz13 := hb13.size
      have H13W := H12W.win hb13 (by omega)
      clear H12W
      have H13x := H12x.win hb13 (by omega)
      clear H12x
      have H13G := H12G.win hb13 (by omega)
      clear H12G
      have c13_a0 := cell_win hb13 c12_a0 (by omega)
      clear c12_a0
      have c13_a1 := cell_win hb13 c12_a1 (by omega)
      clear c12_a1
      have c13_x0 := cell_win hb13 c12_x0 (by omega)
      clear c12_x0
      have c13_x1 := cell_win hb13 c12_x1 (by omega)
      clear c12_x1
      go_wp2_with fail
      refine (eqIntS_any _ _ _ _ _ _ _ _ _ H13G.rd H13W.rd).mono ?_
      rintro e w14 ⟨rfl, hb14⟩
      have BB14 := BB13.trans (hb14.mono BB13.size)
      have sz14 := hb14.size
      have H14W := H13W.below hb14
      clear H13W
      have H14x := H13x.below hb14
      clear H13x
      have H14x1 := H13x1.below hb14
      clear H13x1
      have H14G := H13G.below hb14
      clear H13G
      have c14_a0 := cell_later hb14 c13_a0
      clear c13_a0
      have c14_a1 := cell_later hb14 c13_a1
      clear c13_a1
      have c14_x0 := cell_later hb14 c13_x0
      clear c13_x0
      have c14_x1 := cell_later hb14 c13_x1
      clear c13_x1
      have smG := H14G.small
      go_wp2_with fail
      refine (markIntS_any _ _ _ _ _ _ _ _ H14G (by omega) (by omega)).mono ?_
      rintro e w15 ⟨rfl, H15G, hb15⟩
      have BB15 := BB14.trans (hb15.below (B := w.heap.size) (by omega) BB14.size)
      have sz15 := hb15.size
      have H15W := H14W.win hb15 (by omega)
      clear H14W
      have c15_a0 := cell_win hb15 c14_a0 (by omega)
      clear c14_a0
      have c15_a1 := cell_win hb15 c14_a1 (by omega)
      clear c14_a1
      go_wp2_with fail
      refine (heldIntS_any _ _ _ _ _ H15G.rd smG (by omega) (by omega)).mono ?_
      rintro e w16 ⟨rfl, hb16⟩
      have BB16 := BB15.trans (hb16.mono BB15.size)
      have sz16 := hb16.size
      have H16W := H15W.below hb16
      clear H15W
      have H16G := H15G.below hb16
      clear H15G
      have c16_a0 := cell_later hb16 c15_a0
      clear c15_a0
      have c16_a1 := cell_later hb16 c15_a1
      clear c15_a1
      go_wp2_with fail
      refine (toGraph_u y0 _ (goodGraph_below g0 BB16 (Nat.le_refl _)) hn1).mono ?_
      rintro e w17 ⟨v, rfl, hdv, H17v, hkv, hb17⟩
      have BB17 := BB16.trans (hb17.mono BB16.size)
      have sz17 := hb17.size
      have H17W := H16W.below hb17
      clear H16W
      have H17G := H16G.below hb17
      clear H16G
      have c17_a0 := cell_later hb17 c16_a0
      clear c16_a0
      have c17_a1 := cell_later hb17 c16_a1
      clear c16_a1
      have HDv := Lib.hid hdv
      clear hdv
      have okv := okGraph_dat okY HDv.out
      have HKv := Lib.hid hkv
      clear hkv
      go_wp2_with fail
      refine (toIntS_any _ _ _ z1 _ (r1.below BB17 (Nat.le_refl _)) hn0).mono ?_
      rintro e w18 ⟨q18, rfl, H18v1, hb18⟩
      have BB18 := BB17.trans (hb18.mono BB17.size)
      have sz18 := hb18.size
      have H18W := H17W.below hb18
      clear H17W
      have H18G := H17G.below hb18
      clear H17G
      have H18v := H17v.below hb18
      clear H17v
      have c18_a0 := cell_later hb18 c17_a0
      clear c17_a0
      have c18_a1 := cell_later hb18 c17_a1
      clear c17_a1
      go_wp2_with fail
      refine (holds_impl_u v (datGraph y0) HDv.out _ _ _ z1 _ ((H18v).good okv) (H18v1).rd (by omega)).mono ?_
      rintro e w19 ⟨Ka, Kn, Kc, rfl, H19K, hb19⟩
      have BB19 := BB18.trans (hb19.mono BB18.size)
      have sz19 := hb19.size
      have H19W := H18W.below hb19
      clear H18W
      have H19G := H18G.below hb19
      clear H18G
      have H19v := H18v.below hb19
      clear H18v
      have H19v1 := H18v1.below hb19
      clear H18v1
      have c19_a0 := cell_later hb19 c18_a0
      clear c18_a0
      have c19_a1 := cell_later hb19 c18_a1
      clear c18_a1
      go_wp2_with fail
      refine (eqIntS_any _ _ _ _ _ _ _ _ _ H19K.rd H19W.rd).mono ?_
      rintro e w20 ⟨rfl, hb20⟩
      have BB20 := BB19.trans (hb20.mono BB19.size)
      have sz20 := hb20.size
      have H20W := H19W.below hb20
      clear H19W
      have H20G := H19G.below hb20
      clear H19G
      have H20K := H19K.below hb20
      clear H19K
      have c20_a0 := cell_later hb20 c19_a0
      clear c19_a0
      have c20_a1 := cell_later hb20 c19_a1
      clear c19_a1
      go_wp2_with fail
      refine (heldIntS_any _ _ _ _ _ H20G.rd smG (by omega) (by omega)).mono ?_
      rintro e w21 ⟨rfl, hb21⟩
      have BB21 := BB20.trans (hb21.mono BB20.size)
      have sz21 := hb21.size
      have H21W := H20W.below hb21
      clear H20W
      have H21G := H20G.below hb21
      clear H20G
      have H21K := H20K.below hb21
      clear H20K
      have c21_a0 := cell_later hb21 c20_a0
      clear c20_a0
      have c21_a1 := cell_later hb21 c20_a1
      clear c20_a1
      go_wp2
      go_ret
      exact ⟨rfl, BB21⟩
    · have HL := Lib.hid (leftB_no (left := 1048576) (n := bulkGraph y0) (by omega))
      go_enter Try.func11, Try.ntmps11
      go_wp2_with fail
      refine (szGraph_u y0 _ _ (goodGraph_below g0 hb0 (Nat.le_refl _)) (by omega) (by omega)).mono ?_
      rintro e w1 ⟨rfl, hb1⟩
      rw [HL.out]
      go_wp2
      go_ret
      exact ⟨rfl, hb0.trans (hb1.mono (by simp))⟩
  · go_enter Try.func11, Try.ntmps11
    go_wp2
    go_ret
    exact ⟨rfl, hb0⟩
end Go.Proofs.Ytifaekkbdmcehaa

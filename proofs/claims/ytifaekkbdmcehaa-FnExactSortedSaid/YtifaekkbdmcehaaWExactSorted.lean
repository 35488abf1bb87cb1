/- FnExactSorted: the walk of the law out of the contracts of what it calls. -/
import Derived.Test.YtifaekkbdmcehaaSorted
import Derived.Test.YtifaekkbdmcehaaRecSK
import Derived.Test.YtifaekkbdmcehaaKeep
import Derived.Test.YtifaekkbdmcehaaRow
namespace Go.Proofs.Ytifaekkbdmcehaa
open Go.RowKit
set_option linter.unusedVariables false in
set_option maxRecDepth 100000 in
set_option maxHeartbeats 6400000 in
theorem walk_FnExactSorted (a0 : Option Addr) (n0 c0 : Nat) (z0 : List RecR) (w : World) (r0 : Rd encRec 3 w a0 n0 c0 z0) (g0 : ∀ y ∈ z0, (goodRec w) y) :
    Calls Try.prog 3 #[.slice a0 n0 c0] w fun e w' => e = .returned (.bool true) ∧ Below w.heap.size w w' := by
  by_cases hg0 : bulkRecS (⟨a0, n0, c0, z0⟩ : Row _) ≤ 1048576
  · have BB0 := Below.refl w.heap.size w
    have q0 : rdRecS w ⟨a0, n0, c0, z0⟩ := r0
    have hn0 : bulkRecS (⟨a0, n0, c0, z0⟩ : Row _) ≤ 1048576 := by omega
    go_enter Try.func3, Try.ntmps3
    have HL0 := Lib.hid (leftB_yes (left := 1048576) (n := bulkRecS (⟨a0, n0, c0, z0⟩ : Row _)) (by omega))
    go_wp2_with fail
    refine (szRecS_k (⟨a0, n0, c0, z0⟩ : Row _) _ _ (rdRecS_below q0 BB0 (Nat.le_refl _)) (by omega) (by omega)).mono ?_
    rintro e w1 ⟨rfl, hb1⟩
    rw [HL0.out]
    have BB1 := BB0.trans (hb1.mono BB0.size)
    have sz1 := hb1.size
    go_wp2_with fail
    refine (toRecS_k (⟨a0, n0, c0, z0⟩ : Row _) _ (rdRecS_below q0 BB1 (Nat.le_refl _)) hn0).mono ?_
    rintro e w2 ⟨u0, rfl, hdu0, H2u0, hku0, hb2⟩
    have BB2 := BB1.trans (hb2.mono BB1.size)
    have sz2 := hb2.size
    have HDu0 := Lib.hid hdu0
    clear hdu0
    go_wp2_with fail
    refine (sorted_spec_k u0 (datRecS (⟨a0, n0, c0, z0⟩ : Row _)) HDu0.out _ H2u0.rd).mono ?_
    rintro e w3 ⟨rfl, hb3⟩
    have BB3 := BB2.trans (hb3.mono BB2.size)
    have sz3 := hb3.size
    have H3u0 := H2u0.below hb3
    clear H2u0
    go_wp2_with fail
    refine (toRecS_k (⟨a0, n0, c0, z0⟩ : Row _) _ (rdRecS_below q0 BB3 (Nat.le_refl _)) hn0).mono ?_
    rintro e w4 ⟨x0, rfl, hdx0, H4x0, hkx0, hb4⟩
    have BB4 := BB3.trans (hb4.mono BB3.size)
    have sz4 := hb4.size
    have HDx0 := Lib.hid hdx0
    clear hdx0
    go_wp2_with fail
    refine (sorted_impl_k x0 (datRecS (⟨a0, n0, c0, z0⟩ : Row _)) HDx0.out _ H4x0.rd).mono ?_
    rintro e w5 ⟨rfl, hb5⟩
    have BB5 := BB4.trans (hb5.mono BB4.size)
    have sz5 := hb5.size
    have H5x0 := H4x0.below hb5
    clear H4x0
    go_wp2_with fail
    refine (toRecS_k (⟨a0, n0, c0, z0⟩ : Row _) _ (rdRecS_below q0 BB5 (Nat.le_refl _)) hn0).mono ?_
    rintro e w6 ⟨t0, rfl, hdt0, H6t0, hkt0, hb6⟩
    have BB6 := BB5.trans (hb6.mono BB5.size)
    have sz6 := hb6.size
    have H6x0 := H5x0.below hb6
    clear H5x0
    have HDt0 := Lib.hid hdt0
    clear hdt0
    go_wp2_with fail
    refine (eqRecS_k x0 t0 _ _ HDx0.out HDt0.out _ H6x0.rd H6t0.rd).mono ?_
    rintro e w7 ⟨rfl, hb7⟩
    have BB7 := BB6.trans (hb7.mono BB6.size)
    have sz7 := hb7.size
    have H7x0 := H6x0.below hb7
    clear H6x0
    have H7t0 := H6t0.below hb7
    clear H6t0
    go_wp2
    go_ret
    exact ⟨rfl, BB7⟩
  · have BB0 := Below.refl w.heap.size w
    have q0 : rdRecS w ⟨a0, n0, c0, z0⟩ := r0
    go_enter Try.func3, Try.ntmps3
    have HL0 := Lib.hid (leftB_no (left := 1048576) (n := bulkRecS (⟨a0, n0, c0, z0⟩ : Row _)) (by omega))
    go_wp2_with fail
    refine (szRecS_k (⟨a0, n0, c0, z0⟩ : Row _) _ _ (rdRecS_below q0 BB0 (Nat.le_refl _)) (by omega) (by omega)).mono ?_
    rintro e w1 ⟨rfl, hb1⟩
    rw [HL0.out]
    have BB1 := BB0.trans (hb1.mono BB0.size)
    have sz1 := hb1.size
    go_wp2
    go_ret
    exact ⟨rfl, BB1⟩
end Go.Proofs.Ytifaekkbdmcehaa

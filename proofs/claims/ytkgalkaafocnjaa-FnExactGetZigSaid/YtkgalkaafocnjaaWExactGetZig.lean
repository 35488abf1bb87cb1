/- FnExactGetZig: the walk of the law out of the contracts of what it calls. -/
import Derived.Test.YtkgalkaafocnjaaZig
import Derived.Test.YtkgalkaafocnjaaByteS
namespace Go.Proofs.Ytkgalkaafocnjaa
open Go.RowKit
set_option linter.unusedVariables false in
set_option maxHeartbeats 1600000 in
theorem walk_FnExactGetZig (a0 : Option Addr) (n0 c0 : Nat) (z0 : List Int) (x1 : Int) (w : World) (r0 : Rd (encI .u8) 1 w a0 n0 c0 z0) (g0 : ∀ y ∈ z0, In8 y) (g1 : In64 x1) :
    Calls Try.prog 4 #[.slice a0 n0 c0, .int .i64 x1] w fun e w' => e = .returned (.bool true) ∧ Below w.heap.size w w' := by
  by_cases hn0 : n0 ≤ 1048576
  · have hL0 := Lib.hid r0.len
    go_enter Try.func4, Try.ntmps4
    go_wp2_with fail
    refine (toByteS_any _ _ _ z0 _ r0 hn0).mono ?_
    rintro e w1 ⟨q1, rfl, H1u0, hb1⟩
    have BB1 := hb1
    have sz1 := hb1.size
    go_wp2_with fail
    refine (getZig_spec _ _ _ z0 x1 _ H1u0.rd g0 g1 (by omega)).mono ?_
    rintro e w2 ⟨rfl, hb2⟩
    have BB2 := BB1.trans (hb2.mono BB1.size)
    have sz2 := hb2.size
    have H2u0 := H1u0.below hb2
    clear H1u0
    go_wp2_with fail
    refine (toByteS_any _ _ _ z0 _ (r0.below BB2 (Nat.le_refl _)) hn0).mono ?_
    rintro e w3 ⟨q3, rfl, H3x0, hb3⟩
    have BB3 := BB2.trans (hb3.mono BB2.size)
    have sz3 := hb3.size
    have H3u0 := H2u0.below hb3
    clear H2u0
    go_wp2_with fail
    refine (getZig_impl _ _ _ z0 x1 _ H3x0.rd g0 g1 (by omega)).mono ?_
    rintro e w4 ⟨rfl, hb4⟩
    have BB4 := BB3.trans (hb4.mono BB3.size)
    have sz4 := hb4.size
    have H4x0 := H3x0.below hb4
    clear H3x0
    go_wp2_with fail
    refine (toByteS_any _ _ _ z0 _ (r0.below BB4 (Nat.le_refl _)) hn0).mono ?_
    rintro e w5 ⟨q5, rfl, H5t0, hb5⟩
    have BB5 := BB4.trans (hb5.mono BB4.size)
    have sz5 := hb5.size
    have H5x0 := H4x0.below hb5
    clear H4x0
    go_wp2_with fail
    refine (eqByteS_any _ _ _ _ _ _ _ _ _ H5x0.rd H5t0.rd).mono ?_
    rintro e w6 ⟨rfl, hb6⟩
    have BB6 := BB5.trans (hb6.mono BB5.size)
    have sz6 := hb6.size
    have H6x0 := H5x0.below hb6
    clear H5x0
    have H6t0 := H5t0.below hb6
    clear H5t0
    go_wp2
    go_ret
    exact ⟨rfl, BB6⟩
  · go_enter Try.func4, Try.ntmps4
    go_wp2
    go_ret
    exact ⟨rfl, Below.refl _ _⟩
end Go.Proofs.Ytkgalkaafocnjaa

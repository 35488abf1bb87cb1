/- FnExactEndsOk: the walk of the law out of the contracts of what it calls. -/
import Derived.Test.YthlblpihhcginaaEnds
import Derived.Test.YthlblpihhcginaaIntS
namespace Go.Proofs.Ythlblpihhcginaa
open Go.RowKit
set_option linter.unusedVariables false in
set_option maxHeartbeats 1600000 in
theorem walk_FnExactEndsOk (x0 : Int) (a1 : Option Addr) (n1 c1 : Nat) (z1 : List Int) (w : World) (g0 : In64 x0) (r1 : Rd (encI .i64) 1 w a1 n1 c1 z1) (g1 : ∀ y ∈ z1, In64 y) :
    Calls Try.prog 8 #[.int .i64 x0, .slice a1 n1 c1] w fun e w' => e = .returned (.bool true) ∧ Below w.heap.size w w' := by
  by_cases hn0 : n1 ≤ 1048576
  · have hL1 := Lib.hid r1.len
    go_enter Try.func8, Try.ntmps8
    go_wp2_with fail
    refine (toIntS_any _ _ _ z1 _ r1 hn0).mono ?_
    rintro e w1 ⟨q1, rfl, H1u1, hb1⟩
    have BB1 := hb1
    have sz1 := hb1.size
    go_wp2_with fail
    refine (endsOk_spec _ _ _ _ z1 _ H1u1.rd).mono ?_
    rintro e w2 ⟨rfl, hb2⟩
    have BB2 := BB1.trans (hb2.mono BB1.size)
    have sz2 := hb2.size
    have H2u1 := H1u1.below hb2
    clear H1u1
    go_wp2_with fail
    refine (toIntS_any _ _ _ z1 _ (r1.below BB2 (Nat.le_refl _)) hn0).mono ?_
    rintro e w3 ⟨q3, rfl, H3x1, hb3⟩
    have BB3 := BB2.trans (hb3.mono BB2.size)
    have sz3 := hb3.size
    have H3u1 := H2u1.below hb3
    clear H2u1
    go_wp2_with fail
    refine (endsOk_impl _ _ _ _ z1 _ H3x1.rd).mono ?_
    rintro e w4 ⟨rfl, hb4⟩
    have BB4 := BB3.trans (hb4.mono BB3.size)
    have sz4 := hb4.size
    have H4x1 := H3x1.below hb4
    clear H3x1
    go_wp2_with fail
    refine (toIntS_any _ _ _ z1 _ (r1.below BB4 (Nat.le_refl _)) hn0).mono ?_
    rintro e w5 ⟨q5, rfl, H5t1, hb5⟩
    have BB5 := BB4.trans (hb5.mono BB4.size)
    have sz5 := hb5.size
    have H5x1 := H4x1.below hb5
    clear H4x1
    go_wp2_with fail
    refine (eqIntS_any _ _ _ _ _ _ _ _ _ H5x1.rd H5t1.rd).mono ?_
    rintro e w6 ⟨rfl, hb6⟩
    have BB6 := BB5.trans (hb6.mono BB5.size)
    have sz6 := hb6.size
    have H6x1 := H5x1.below hb6
    clear H5x1
    have H6t1 := H5t1.below hb6
    clear H5t1
    go_wp2
    go_ret
    exact ⟨rfl, BB6⟩
  · go_enter Try.func8, Try.ntmps8
    go_wp2
    go_ret
    exact ⟨rfl, Below.refl _ _⟩
end Go.Proofs.Ythlblpihhcginaa

/- szByteS of the statements. -/
import Derived.Test.YtoodlmhnemamhaaRows
import Derived.Test.YtoodlmhnemamhaaOwn
namespace Go.Proofs.Ytoodlmhnemamhaa
open Go.RowKit
theorem szByteS_any (a : Option Addr) (n cap : Nat) (left : Int) (w : World) (h1 : 0 ≤ left) (h2 : left ≤ 1048576) (hn : n ≤ 9223372036854775807) :
    Calls Try.prog 36 #[.slice a n cap, .int .i64 left] w fun e w' => e = .returned (.int .i64 (leftB left n)) ∧ Below w.heap.size w w' := by
  by_cases h : left < n
  · have HL := Lib.hid (leftB_no h)
    go_enter Try.func36, Try.ntmps36
    go_wp2
    go_ret
    exact ⟨by rw [HL.out]; rfl, Below.refl _ _⟩
  · have HL := Lib.hid (leftB_yes h)
    go_enter Try.func36, Try.ntmps36
    go_wp2
    go_ret
    exact ⟨by rw [HL.out]; rfl, Below.refl _ _⟩
end Go.Proofs.Ytoodlmhnemamhaa

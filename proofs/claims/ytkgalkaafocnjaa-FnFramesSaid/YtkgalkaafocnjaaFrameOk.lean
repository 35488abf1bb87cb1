/- FrameOk of the program and of the reference: what they compute. -/
import Derived.Test.YtkgalkaafocnjaaFrameT
namespace Go.Proofs.Ytkgalkaafocnjaa
open Go.RowKit
def kindB (k : Int) : Bool := decide (1 ≤ k) && decide (k ≤ 3)
def frameOkB (k : Int) (n : Nat) : Bool := kindB k && decide (n ≤ 60000)
theorem isFrameKind_any (k : Int) (w : World) : Calls Try.prog 77 #[.int .i64 k] w fun e w' => e = .returned (.bool (kindB k)) ∧ w = w' := by
  have HF : Hid (kindB k = (decide (1 ≤ k) && decide (k ≤ 3))) := rfl
  by_cases a : 1 ≤ k
  · go_enter Try.func77, Try.ntmps77
    go_wp2
    go_ret
    exact ⟨by rw [HF.out]; simp [a], rfl⟩
  · go_enter Try.func77, Try.ntmps77
    go_wp2
    go_ret
    exact ⟨by rw [HF.out]; simp; intros; omega, rfl⟩
set_option maxHeartbeats 400000 in
theorem frameOk_impl (k : Int) (a : Option Addr) (n cap : Nat) (w : World) :
    Calls Try.prog 74 #[.agg #[.int .i64 k, .slice a n cap]] w fun e w' => e = .returned (.bool (frameOkB k n)) ∧ Below w.heap.size w w' := by
  have HF : Hid (frameOkB k n = (kindB k && decide (n ≤ 60000))) := rfl
  cases hk : kindB k with
  | true =>
    have HK := Lib.hid hk
    clear hk
    by_cases hn : n ≤ 60000
    · go_enter Try.func74, Try.ntmps74
      go_wp2_with fail
      refine (isFrameKind_any _ _).mono ?_
      rintro e w' ⟨rfl, rfl⟩
      rw [HK.out]
      go_wp2
      go_ret
      exact ⟨by rw [HF.out, HK.out]; simp [hn]; omega, (Below.refl _ _).alloc (Nat.le_refl _) _⟩
    · go_enter Try.func74, Try.ntmps74
      go_wp2_with fail
      refine (isFrameKind_any _ _).mono ?_
      rintro e w' ⟨rfl, rfl⟩
      rw [HK.out]
      go_wp2
      go_ret
      exact ⟨by rw [HF.out, HK.out]; simp; omega, (Below.refl _ _).alloc (Nat.le_refl _) _⟩
  | false =>
    have HK := Lib.hid hk
    clear hk
    go_enter Try.func74, Try.ntmps74
    go_wp2_with fail
    refine (isFrameKind_any _ _).mono ?_
    rintro e w' ⟨rfl, rfl⟩
    rw [HK.out]
    go_wp2
    go_ret
    exact ⟨by rw [HF.out, HK.out]; simp, (Below.refl _ _).alloc (Nat.le_refl _) _⟩
set_option maxHeartbeats 400000 in
theorem frameOk_spec (k : Int) (a : Option Addr) (n cap : Nat) (w : World) :
    Calls Try.prog 72 #[.agg #[.int .i64 k, .slice a n cap]] w fun e w' => e = .returned (.bool (frameOkB k n)) ∧ Below w.heap.size w w' := by
  have HF : Hid (frameOkB k n = (decide (1 ≤ k) && decide (k ≤ 3) && decide (n ≤ 60000))) := rfl
  by_cases h1 : 1 ≤ k
  · by_cases h2 : k ≤ 3
    · by_cases hn : n ≤ 60000
      · have HD := Lib.hid (show (decide (1 ≤ k) && decide (k ≤ 3) && decide (n ≤ 60000)) = true from by simp [h1, h2, hn])
        go_enter Try.func72, Try.ntmps72
        go_wp2
        go_ret
        exact ⟨ret_b (by rw [HF.out, HD.out]; simp; omega), (Below.refl _ _).alloc (Nat.le_refl _) _⟩
      · have HD := Lib.hid (show (decide (1 ≤ k) && decide (k ≤ 3) && decide (n ≤ 60000)) = false from by simp [h1, h2, hn])
        go_enter Try.func72, Try.ntmps72
        go_wp2
        go_ret
        exact ⟨ret_b (by rw [HF.out, HD.out]; simp; omega), (Below.refl _ _).alloc (Nat.le_refl _) _⟩
    · have HD := Lib.hid (show (decide (1 ≤ k) && decide (k ≤ 3) && decide (n ≤ 60000)) = false from by simp [h2])
      go_enter Try.func72, Try.ntmps72
      go_wp2
      go_ret
      exact ⟨ret_b (by rw [HF.out, HD.out]), (Below.refl _ _).alloc (Nat.le_refl _) _⟩
  · have HD := Lib.hid (show (decide (1 ≤ k) && decide (k ≤ 3) && decide (n ≤ 60000)) = false from by simp [h1])
    go_enter Try.func72, Try.ntmps72
    go_wp2
    go_ret
    exact ⟨ret_b (by rw [HF.out, HD.out]), (Below.refl _ _).alloc (Nat.le_refl _) _⟩
end Go.Proofs.Ytkgalkaafocnjaa

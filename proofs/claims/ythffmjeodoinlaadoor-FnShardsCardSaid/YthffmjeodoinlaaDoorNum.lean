/- isNumber of the program, l01Num of the reference. -/
import Derived.Test.YthffmjeodoinlaaDoorRows
import Derived.Test.YthffmjeodoinlaaDoorLib
namespace Go.Proofs.YthffmjeodoinlaaDoor
open Go.RowKit
def numB (n : Int) : Bool := decide (0 ≤ n) && decide (n ≤ 281474976710655)
theorem numB_true {n : Int} (h0 : 0 ≤ n) (h1 : n ≤ 281474976710655) : numB n = true := by simp [numB, h0, h1]
theorem numB_false {n : Int} (h : ¬ (0 ≤ n ∧ n ≤ 281474976710655)) : numB n = false := by
  unfold numB
  by_cases a : 0 ≤ n
  · have b : ¬ n ≤ 281474976710655 := fun b => h ⟨a, b⟩
    simp [b]
  · simp [a]

theorem isNumber_any (n : Int) (w : World) : Calls Tryd.prog 27 #[.int .i64 n] w fun e w' => e = .returned (.bool (numB n)) ∧ w = w' := by
  have HF : Hid (numB n = (decide (0 ≤ n) && decide (n ≤ 281474976710655))) := rfl
  by_cases a : 0 ≤ n
  · go_enter Tryd.func27, Tryd.ntmps27
    go_wp2
    go_ret
    exact ⟨by rw [HF.out]; simp [a], rfl⟩
  · go_enter Tryd.func27, Tryd.ntmps27
    go_wp2
    go_ret
    exact ⟨by rw [HF.out]; simp; intros; omega, rfl⟩

theorem l01Num_any (n : Int) (w : World) : Calls Tryd.prog 33 #[.int .i64 n] w fun e w' => e = .returned (.bool (numB n)) ∧ w = w' := by
  have HF : Hid (numB n = (decide (0 ≤ n) && decide (n ≤ 281474976710655))) := rfl
  by_cases a : 0 ≤ n
  · go_enter Tryd.func33, Tryd.ntmps33
    go_wp2
    go_ret
    exact ⟨by rw [HF.out]; simp [a], rfl⟩
  · go_enter Tryd.func33, Tryd.ntmps33
    go_wp2
    go_ret
    exact ⟨by rw [HF.out]; simp; intros; omega, rfl⟩

end Go.Proofs.YthffmjeodoinlaaDoor

/- Sorted of the program and of the reference: what they compute. -/
import Derived.Test.YthffmjeodoinlaaDoorLess
import Derived.Test.YthffmjeodoinlaaDoorRecSK
namespace Go.Proofs.YthffmjeodoinlaaDoor
open Go.RowKit
def lessR (x y : RecR) : Bool := lessB x.a x.b x.c y.a y.b y.c
theorem lessR_impl (x y : RecR) (w : World) : Calls Tryd.prog 34 #[.agg #[.int .i64 x.a, .int .i64 x.b, .int .i64 x.c], .agg #[.int .i64 y.a, .int .i64 y.b, .int .i64 y.c]] w fun e w' => e = .returned (.bool (lessR x y)) ∧ Below w.heap.size w w' := less_impl _ _ _ _ _ _ _
/-- No record below position k comes before the one ahead of it. -/
def sortP (xs : List RecR) (k : Nat) : Bool := (List.range k).all fun i => decide (i = 0) || !lessR (atRec xs i) (atRec xs (i - 1))
def sortB (xs : List RecR) : Bool := sortP xs xs.length
theorem sortP_one (xs : List RecR) : sortP xs 1 = true := by simp [sortP]
theorem sortP_step {xs : List RecR} {k : Nat} (h : sortP xs k = true) (hl : lessR (atRec xs k) (atRec xs (k - 1)) = false) : sortP xs (k + 1) = true := by
  unfold sortP at *
  rw [List.range_succ, List.all_append, h]
  simp [hl]
theorem sortB_stop {xs : List RecR} {k : Nat} (hk : k < xs.length) (h0 : 0 < k) (hl : lessR (atRec xs k) (atRec xs (k - 1)) = true) : sortB xs = false := by
  unfold sortB sortP
  rw [List.all_eq_false]
  exact ⟨k, by simpa using hk, by have : ¬ k = 0 := by omega
                                  simp [hl, this]⟩
theorem sortB_short {xs : List RecR} {k : Nat} (h : sortP xs k = true) (hk : xs.length ≤ k) : sortB xs = true := by
  unfold sortB sortP at *
  rw [List.all_eq_true] at *
  intro i hi
  exact h i (by simp at *; omega)
-- HERE
end Go.Proofs.YthffmjeodoinlaaDoor

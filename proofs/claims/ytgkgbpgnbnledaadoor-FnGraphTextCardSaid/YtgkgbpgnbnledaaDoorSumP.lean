/- The sum of a tally. Nothing of the program. -/
import Derived.Test.YtgkgbpgnbnledaaDoorDegP
namespace Go.Proofs.YtgkgbpgnbnledaaDoor
theorem sum_set : ∀ (l : List Int) (i : Nat) (v : Int), i < l.length → (l.set i v).sum = l.sum - l.getD i 0 + v := by
  intro l
  induction l with
  | nil => intro i v h; exact absurd h (by simp)
  | cons a r ih =>
    intro i v h
    cases i with
    | zero => simp only [List.set_cons_zero, List.sum_cons, List.getD_cons_zero]; omega
    | succ i =>
      have := ih i v (by simpa using h)
      simp only [List.set_cons_succ, List.sum_cons, List.getD_cons_succ, this]
      omega
theorem sum_fold : ∀ (is : List Nat) (l : List Int), (∀ i ∈ is, i < l.length) → (is.foldl bump l).sum = l.sum + is.length := by
  intro is
  induction is with
  | nil => intro l _; simp
  | cons a r ih =>
    intro l h
    have h1 := h a (by simp)
    rw [List.foldl_cons, ih (bump l a) (fun i hi => by rw [bump_len]; exact h i (by simp [hi]))]
    unfold bump
    rw [sum_set _ _ _ h1, List.length_cons]
    omega
theorem sum_zeros (n : Nat) : (List.replicate n (0 : Int)).sum = 0 := by
  induction n with
  | zero => rfl
  | succ n ih => rw [List.replicate_succ, List.sum_cons, ih]; rfl
theorem sum_tally (n : Nat) (is : List Nat) (h : ∀ i ∈ is, i < n) : (tally n is).sum = is.length := by
  unfold tally
  rw [sum_fold _ _ (fun i hi => by simpa using h i hi), sum_zeros]
  omega
theorem sum_take : ∀ (l : List Int), (∀ j, 0 ≤ l.getD j 0) → ∀ k, 0 ≤ (l.take k).sum ∧ (l.take k).sum ≤ l.sum := by
  intro l
  induction l with
  | nil => intro _ k; simp
  | cons a r ih =>
    intro h k
    have h0 := h 0
    simp only [List.getD_cons_zero] at h0
    have hr := ih (fun j => by have := h (j + 1); simpa using this)
    have h3 := hr r.length
    rw [List.take_length] at h3
    cases k with
    | zero => simp only [List.take_zero, List.sum_nil, List.sum_cons]; omega
    | succ k => have := hr k; simp only [List.take_succ_cons, List.sum_cons]; omega
theorem sum_next (l : List Int) (k : Nat) (h : k < l.length) : (l.take (k + 1)).sum = (l.take k).sum + l[k]?.getD 0 := by
  rw [List.take_succ_eq_append_getElem h, List.sum_append, List.getElem?_eq_getElem h]
  simp
end Go.Proofs.YtgkgbpgnbnledaaDoor

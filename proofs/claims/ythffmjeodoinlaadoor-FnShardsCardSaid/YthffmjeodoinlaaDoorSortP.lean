/- Putting records in one after the other gives the list in order. Nothing of the program. -/
import Derived.Test.YthffmjeodoinlaaDoorSrtG
namespace Go.Proofs.YthffmjeodoinlaaDoor
open Go.RowKit Go.Lib
def insAt (x : RecR) : List RecR → Nat
  | [] => 0
  | y :: r => if lessR x y = true then 0 else insAt x r + 1
theorem insAt_le (x : RecR) : ∀ l : List RecR, insAt x l ≤ l.length
  | [] => Nat.le_refl _
  | y :: r => by
    have := insAt_le x r
    unfold insAt
    split
    · exact Nat.zero_le _
    · rw [List.length_cons]; omega
theorem ins_hit (x : RecR) : ∀ (l : List RecR) (k : Nat), k ≤ insAt x l → k < l.length → lessR x (atRec l k) = true → insAt x l = k
  | [], k, _, h, _ => absurd h (Nat.not_lt_zero k)
  | y :: r, 0, _, _, h => by
    unfold insAt
    rw [if_pos (show lessR x y = true from h)]
  | y :: r, k + 1, h0, h1, h2 => by
    unfold insAt at h0 ⊢
    split at h0
    · omega
    · rename_i hn
      rw [if_neg hn, ins_hit x r k (by omega) (by rw [List.length_cons] at h1; omega) h2]
theorem ins_miss (x : RecR) : ∀ (l : List RecR) (k : Nat), k ≤ insAt x l → k < l.length → lessR x (atRec l k) = false → k + 1 ≤ insAt x l
  | [], k, _, h, _ => absurd h (Nat.not_lt_zero k)
  | y :: r, 0, _, _, h => by
    unfold insAt
    rw [if_neg (by rw [show lessR x y = false from h]; decide)]
    omega
  | y :: r, k + 1, h0, h1, h2 => by
    unfold insAt at h0 ⊢
    split at h0
    · omega
    · rename_i hn
      rw [if_neg hn]
      have := ins_miss x r k (by omega) (by rw [List.length_cons] at h1; omega) h2
      omega
def insR (x : RecR) (l : List RecR) : List RecR := l.take (insAt x l) ++ x :: l.drop (insAt x l)
theorem insR_cons (x y : RecR) (r : List RecR) : insR x (y :: r) = if lessR x y = true then x :: y :: r else y :: insR x r := by
  unfold insR
  rw [show insAt x (y :: r) = if lessR x y = true then 0 else insAt x r + 1 from rfl]
  split <;> rfl
theorem insR_perm (x : RecR) (l : List RecR) : (insR x l).Perm (x :: l) := by
  unfold insR
  refine List.perm_middle.trans ?_
  rw [List.take_append_drop]
/-- In order: no later one is less than an earlier one. -/
def OrdL (l : List RecR) : Prop := l.Pairwise (fun x y => (!lessR y x) = true)
theorem insR_ord (x : RecR) : ∀ l : List RecR, OrdL l → OrdL (insR x l)
  | [], _ => by unfold insR insAt OrdL; simp
  | y :: r, h => by
    have h' := h
    unfold OrdL at h
    rw [List.pairwise_cons] at h
    obtain ⟨hy, hr⟩ := h
    rw [insR_cons]
    by_cases hxy : lessR x y = true
    · rw [if_pos hxy]
      refine List.pairwise_cons.2 ⟨fun z hz => ?_, h'⟩
      rw [List.mem_cons] at hz
      rw [Bool.not_eq_true', Bool.eq_false_iff]
      intro hzx
      have hzy := swo_less.trans z x y hzx hxy
      rcases hz with rfl | hz
      · rw [swo_less.irrefl] at hzy; cases hzy
      · have := hy z hz
        rw [hzy] at this
        cases this
    · rw [if_neg hxy]
      refine List.pairwise_cons.2 ⟨fun z hz => ?_, insR_ord x r hr⟩
      have hz' := (insR_perm x r).mem_iff.1 hz
      rw [List.mem_cons] at hz'
      rcases hz' with rfl | hz'
      · simpa using hxy
      · exact hy z hz'
def insAll (xs : List RecR) : List RecR := xs.foldl (fun l x => insR x l) []
theorem insAll_snoc (xs : List RecR) (x : RecR) : insAll (xs ++ [x]) = insR x (insAll xs) := by unfold insAll; rw [List.foldl_append]; rfl
theorem ord_sortL (l : List RecR) : OrdL (sortL l) := by
  unfold OrdL sortL
  refine List.pairwise_mergeSort ?_ ?_ _
  · intro a b c h1 h2
    simp only [Bool.not_eq_true'] at h1 h2 ⊢
    exact swo_less.ntrans c b a h2 h1
  · intro a b
    cases h : lessR b a with
    | false => simp
    | true =>
      cases k : lessR a b with
      | false => simp
      | true => have := swo_less.trans a b a k h; rw [swo_less.irrefl] at this; cases this
theorem perm_sortL (l : List RecR) : (sortL l).Perm l := List.mergeSort_perm _ _
/-- There is one list in order. -/
theorem ord_unique {l m : List RecR} (hp : l.Perm m) (hl : OrdL l) (hm : OrdL m) : l = m :=
  List.Perm.eq_of_pairwise (le := fun x y => (!lessR y x) = true) (fun a b _ _ h1 h2 => by simp only [Bool.not_eq_true'] at h1 h2; exact less_anti a b h2 h1) hl hm hp
theorem insAll_spec (xs : List RecR) : ∀ ys : List RecR, OrdL ys → OrdL (xs.foldl (fun l x => insR x l) ys) ∧ (xs.foldl (fun l x => insR x l) ys).Perm (xs ++ ys) := by
  induction xs with
  | nil => intro ys h; exact ⟨h, List.Perm.refl _⟩
  | cons x r ih =>
    intro ys h
    obtain ⟨h1, h2⟩ := ih (insR x ys) (insR_ord x ys h)
    refine ⟨h1, h2.trans ?_⟩
    refine ((insR_perm x ys).append_left r).trans ?_
    exact List.perm_middle
theorem insAll_eq (xs : List RecR) : insAll xs = sortL xs := by
  obtain ⟨h1, h2⟩ := insAll_spec xs [] List.Pairwise.nil
  rw [List.append_nil] at h2
  exact ord_unique (h2.trans (perm_sortL xs).symm) h1 (ord_sortL xs)
theorem insAll_len (xs : List RecR) : (insAll xs).length = xs.length := by rw [insAll_eq]; exact (perm_sortL xs).length_eq
end Go.Proofs.YthffmjeodoinlaaDoor

/- Degrees, cuts, holds: the plain functions and their laws. Nothing of the program. -/
import Derived.Test.YthffmjeodoinlaaDoorLib
namespace Go.Proofs.YthffmjeodoinlaaDoor
open Go.RowKit
def bump (l : List Int) (i : Nat) : List Int := l.set i (l.getD i 0 + 1)
theorem bump_len (l : List Int) (i : Nat) : (bump l i).length = l.length := by simp [bump]
theorem bump_get (l : List Int) (i j : Nat) : (bump l i).getD j 0 = if i = j ∧ j < l.length then l.getD j 0 + 1 else l.getD j 0 := by
  unfold bump
  simp only [List.getD_eq_getElem?_getD, List.getElem?_set]
  by_cases h : i = j
  · subst h
    by_cases h2 : i < l.length
    · simp [h2]
    · simp [h2]
  · simp [h]
/-- Tallies: how often each of the first n numbers comes. -/
def tally (n : Nat) (is : List Nat) : List Int := is.foldl bump (List.replicate n 0)
theorem tally_snoc (n : Nat) (is : List Nat) (i : Nat) : tally n (is ++ [i]) = bump (tally n is) i := by simp [tally]
theorem fold_len : ∀ (is : List Nat) (l : List Int), (is.foldl bump l).length = l.length := by
  intro is
  induction is with
  | nil => intro l; rfl
  | cons i r ih => intro l; rw [List.foldl_cons, ih, bump_len]
theorem tally_len (n : Nat) (is : List Nat) : (tally n is).length = n := by unfold tally; rw [fold_len]; simp
theorem fold_bd : ∀ (is : List Nat) (l : List Int) (c : Int), (∀ j, 0 ≤ l.getD j 0 ∧ l.getD j 0 ≤ c) → ∀ j, 0 ≤ (is.foldl bump l).getD j 0 ∧ (is.foldl bump l).getD j 0 ≤ c + is.length := by
  intro is
  induction is with
  | nil => intro l c h j; simpa using h j
  | cons i r ih =>
    intro l c h j
    rw [List.foldl_cons]
    have := ih (bump l i) (c + 1) (fun j => by rw [bump_get]; have := h j; split <;> omega) j
    rw [List.length_cons]
    omega
theorem tally_bd (n : Nat) (is : List Nat) (j : Nat) : 0 ≤ (tally n is).getD j 0 ∧ (tally n is).getD j 0 ≤ is.length := by
  have := fold_bd is (List.replicate n 0) 0 (fun j => by simp [List.getD_eq_getElem?_getD, List.getElem?_replicate]; split <;> simp) j
  unfold tally
  omega
/-- Where the intervals end, from vertex v on, sum edges in hand; the rest's degrees. -/
def cutF (b sum : Int) (v : Nat) : List Int → List Int
  | [] => [(v : Int)]
  | d :: r => if b < sum + d then (v : Int) :: cutF b d (v + 1) r else cutF b (sum + d) (v + 1) r
def cutL (b : Int) : List Int → List Int
  | [] => []
  | d :: r => cutF b d 1 r
theorem cutF_end (b sum : Int) (l : List Int) : cutF b sum l.length (l.drop l.length) = [(l.length : Int)] := by simp [cutF]
theorem cutF_over {b sum : Int} {v : Nat} {l : List Int} (h : v < l.length) (hs : b < sum + l.getD v 0) : cutF b sum v (l.drop v) = (v : Int) :: cutF b (l.getD v 0) (v + 1) (l.drop (v + 1)) := by
  rw [List.drop_eq_getElem_cons h]
  have e : l.getD v 0 = l[v] := by simp [List.getD, h]
  rw [e] at hs ⊢
  show (if b < sum + l[v] then _ else _) = _
  rw [if_pos hs]
theorem cutF_in {b sum : Int} {v : Nat} {l : List Int} (h : v < l.length) (hs : sum + l.getD v 0 ≤ b) : cutF b sum v (l.drop v) = cutF b (sum + l.getD v 0) (v + 1) (l.drop (v + 1)) := by
  rw [List.drop_eq_getElem_cons h]
  have e : l.getD v 0 = l[v] := by simp [List.getD, h]
  rw [e] at hs ⊢
  show (if b < sum + l[v] then _ else _) = _
  rw [if_neg (by omega)]
theorem cutL_start (b : Int) {l : List Int} (h : 0 < l.length) : cutL b l = cutF b (l.getD 0 0) 1 (l.drop 1) := by
  cases l with
  | nil => simp at h
  | cons d r => simp [cutL]
/-- What the program has done: nothing at 0; else what is written, and what is to come. -/
def cutRest (b : Int) (l : List Int) (v : Nat) : List Int := if v < l.length then cutF b (l.getD v 0) (v + 1) (l.drop (v + 1)) else []
theorem cutRest_zero (b : Int) (l : List Int) : cutRest b l 0 = cutL b l := by
  unfold cutRest
  split
  · rename_i h; rw [cutL_start b h]
  · rename_i h; have : l = [] := List.eq_nil_of_length_eq_zero (by omega); subst this; rfl
theorem cutRest_end (b : Int) (l : List Int) : cutRest b l l.length = [] := by unfold cutRest; rw [if_neg (by omega)]
theorem cutRest_lt (b : Int) {l : List Int} {v : Nat} (h : v < l.length) : cutRest b l v = cutF b (l.getD v 0) (v + 1) (l.drop (v + 1)) := if_pos h
theorem cutF_rest {b sum : Int} {v : Nat} {l : List Int} (hv : v ≤ l.length) (hs : v < l.length → b < sum + l.getD v 0) : cutF b sum v (l.drop v) = (v : Int) :: cutRest b l v := by
  by_cases h : v < l.length
  · rw [cutF_over h (hs h), cutRest_lt b h]
  · obtain rfl : v = l.length := by omega
    rw [cutF_end, cutRest_end]
theorem cutF_len : ∀ (l : List Int) (b sum : Int) (v : Nat), (cutF b sum v l).length ≤ l.length + 1 := by
  intro l
  induction l with
  | nil => intro b sum v; simp [cutF]
  | cons d r ih =>
    intro b sum v
    unfold cutF
    split
    · have := ih b d (v + 1); simp; omega
    · have := ih b (sum + d) (v + 1); simp; omega
end Go.Proofs.YthffmjeodoinlaaDoor

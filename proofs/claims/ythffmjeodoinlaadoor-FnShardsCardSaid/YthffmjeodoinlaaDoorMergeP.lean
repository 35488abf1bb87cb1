/- Merging: the plain function, round for round. Nothing of the program. -/
import Derived.Test.YthffmjeodoinlaaDoorSorted
import Derived.Test.YthffmjeodoinlaaDoorDegP
namespace Go.Proofs.YthffmjeodoinlaaDoor
open Go.RowKit
def rowD (D : List (List RecR)) (k : Nat) : List RecR := D.getD k []
def atI (at' : List Int) (k : Nat) : Int := at'.getD k 0
def recD (D : List (List RecR)) (at' : List Int) (k : Nat) : RecR := atRec (rowD D k) (atI at' k).toNat
/-- The best of the first k rows, -1 where there is none. -/
def bestAt (D : List (List RecR)) (at' : List Int) : Nat → Int
  | 0 => -1
  | k + 1 => if atI at' k < ((rowD D k).length : Int) ∧ (bestAt D at' k < 0 ∨ lessR (recD D at' k) (recD D at' (bestAt D at' k).toNat) = true) then (k : Int) else bestAt D at' k
theorem bestAt_rng (D : List (List RecR)) (at' : List Int) : ∀ k, bestAt D at' k = -1 ∨ ∃ b : Nat, bestAt D at' k = (b : Int) ∧ b < k ∧ atI at' b < ((rowD D b).length : Int) := by
  intro k
  induction k with
  | zero => exact Or.inl rfl
  | succ k ih =>
    unfold bestAt
    split
    · rename_i h; exact Or.inr ⟨k, rfl, by omega, h.1⟩
    · rcases ih with h | ⟨b, h1, h2, h3⟩
      · exact Or.inl h
      · exact Or.inr ⟨b, h1, by omega, h3⟩
theorem bestAt_dead {D : List (List RecR)} {at' : List Int} {k : Nat} (h : ((rowD D k).length : Int) ≤ atI at' k) : bestAt D at' (k + 1) = bestAt D at' k := by
  conv => lhs; unfold bestAt
  rw [if_neg (by omega)]
theorem bestAt_first {D : List (List RecR)} {at' : List Int} {k : Nat} (h : atI at' k < ((rowD D k).length : Int)) (hb : bestAt D at' k = -1) : bestAt D at' (k + 1) = (k : Int) := by
  conv => lhs; unfold bestAt
  rw [if_pos ⟨h, Or.inl (by omega)⟩]
theorem bestAt_less {D : List (List RecR)} {at' : List Int} {k b : Nat} (h : atI at' k < ((rowD D k).length : Int)) (hb : bestAt D at' k = (b : Int)) (hl : lessR (recD D at' k) (recD D at' b) = true) : bestAt D at' (k + 1) = (k : Int) := by
  conv => lhs; unfold bestAt
  rw [if_pos ⟨h, Or.inr (by rw [hb]; exact hl)⟩]
theorem bestAt_not {D : List (List RecR)} {at' : List Int} {k b : Nat} (hb : bestAt D at' k = (b : Int)) (hl : lessR (recD D at' k) (recD D at' b) = false) : bestAt D at' (k + 1) = (b : Int) := by
  conv => lhs; unfold bestAt
  rw [if_neg, hb]
  intro hh
  rcases hh.2 with h | h
  · omega
  · rw [hb] at h
    simp [hl] at h
/-- How many records are still to come. -/
def remN (D : List (List RecR)) (at' : List Int) (n : Nat) : Nat := ((List.range n).map fun k => (rowD D k).length - (atI at' k).toNat).sum
theorem remN_succ (D : List (List RecR)) (at' : List Int) (n : Nat) : remN D at' (n + 1) = remN D at' n + ((rowD D n).length - (atI at' n).toNat) := by
  unfold remN; rw [List.range_succ]; simp
theorem atI_bump (at' : List Int) (b k : Nat) (hb : b < at'.length) : atI (bump at' b) k = if b = k then atI at' b + 1 else atI at' k := by
  unfold atI
  rw [bump_get]
  by_cases h : b = k
  · subst h; simp [hb]
  · simp [h]
theorem remN_other (D : List (List RecR)) (at' : List Int) (b : Nat) (hb : b < at'.length) : ∀ n, n ≤ b → remN D (bump at' b) n = remN D at' n := by
  intro n
  induction n with
  | zero => intro _; rfl
  | succ n ih => intro h; rw [remN_succ, remN_succ, ih (by omega), atI_bump at' b n hb, if_neg (by omega)]
theorem remN_bump (D : List (List RecR)) (at' : List Int) (b : Nat) (hb : b < at'.length) (h0 : 0 ≤ atI at' b) (h : atI at' b < ((rowD D b).length : Int)) : ∀ n, b < n → remN D (bump at' b) n + 1 = remN D at' n := by
  intro n
  induction n with
  | zero => intro h; omega
  | succ n ih =>
    intro hn
    rw [remN_succ, remN_succ, atI_bump at' b n hb]
    by_cases e : b = n
    · subst e
      rw [if_pos rfl, remN_other D at' b hb b (Nat.le_refl _)]
      omega
    · rw [if_neg e]
      have := ih (by omega)
      omega
def mergeFrom (D : List (List RecR)) : Nat → List Int → List RecR
  | 0, _ => []
  | f + 1, at' => if bestAt D at' D.length < 0 then [] else recD D at' (bestAt D at' D.length).toNat :: mergeFrom D f (bump at' (bestAt D at' D.length).toNat)
def zerosN (n : Nat) : List Int := List.replicate n 0
def mergeF (D : List (List RecR)) : List RecR := mergeFrom D (remN D (zerosN D.length) D.length + 1) (zerosN D.length)
theorem mergeFrom_stop {D : List (List RecR)} {at' : List Int} (f : Nat) (h : bestAt D at' D.length = -1) : mergeFrom D f at' = [] := by
  cases f with
  | zero => rfl
  | succ f => unfold mergeFrom; rw [if_pos (by omega)]
theorem mergeFrom_step {D : List (List RecR)} {at' : List Int} {b : Nat} (f : Nat) (h : bestAt D at' D.length = (b : Int)) : mergeFrom D (f + 1) at' = recD D at' b :: mergeFrom D f (bump at' b) := by
  conv => lhs; unfold mergeFrom
  rw [if_neg (by omega), h]
  rfl
theorem merge_next {D : List (List RecR)} {at' : List Int} {out : List RecR} {b : Nat} (hb : b < D.length) (hl : at'.length = D.length) (h0 : 0 ≤ atI at' b) (hlt : atI at' b < ((rowD D b).length : Int)) (hbest : bestAt D at' D.length = (b : Int))
    (h : out ++ mergeFrom D (remN D at' D.length + 1) at' = mergeF D) : (out ++ [recD D at' b]) ++ mergeFrom D (remN D (bump at' b) D.length + 1) (bump at' b) = mergeF D := by
  rw [List.append_assoc, remN_bump D at' b (by omega) h0 hlt D.length hb]
  rw [mergeFrom_step _ hbest] at h
  exact h
theorem merge_done {D : List (List RecR)} {at' : List Int} {out : List RecR} (hbest : bestAt D at' D.length = -1) (h : out ++ mergeFrom D (remN D at' D.length + 1) at' = mergeF D) : out = mergeF D := by
  rw [mergeFrom_stop _ hbest, List.append_nil] at h
  exact h
theorem zeros_at (n k : Nat) : atI (zerosN n) k = 0 := by
  unfold atI zerosN
  simp only [List.getD_eq_getElem?_getD, List.getElem?_replicate]
  split <;> rfl
theorem rem_zero (D : List (List RecR)) : ∀ n, remN D (zerosN D.length) n = ((List.range n).map fun k => (rowD D k).length).sum := by
  intro n
  unfold remN
  congr 1
  apply List.map_congr_left
  intro k _
  rw [zeros_at]
  simp
end Go.Proofs.YthffmjeodoinlaaDoor

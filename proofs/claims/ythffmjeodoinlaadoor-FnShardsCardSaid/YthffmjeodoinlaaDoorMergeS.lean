/- Merging rows in order gives the list in order. Nothing of the program. -/
import Derived.Test.YthffmjeodoinlaaDoorMergeP
import Derived.Test.YthffmjeodoinlaaDoorSortP
import Derived.Test.YthffmjeodoinlaaDoorBatchP
namespace Go.Proofs.YthffmjeodoinlaaDoor
open Go.RowKit
/-- What is still to come, of the first n rows. -/
def remL (D : List (List RecR)) (at' : List Int) (n : Nat) : List RecR := ((List.range n).map fun k => (rowD D k).drop (atI at' k).toNat).flatten
theorem remL_succ (D : List (List RecR)) (at' : List Int) (n : Nat) : remL D at' (n + 1) = remL D at' n ++ (rowD D n).drop (atI at' n).toNat := by
  unfold remL; rw [List.range_succ]; simp
theorem remL_other (D : List (List RecR)) (at' : List Int) (b : Nat) (hb : b < at'.length) : ∀ n, n ≤ b → remL D (bump at' b) n = remL D at' n := by
  intro n
  induction n with
  | zero => intro _; rfl
  | succ n ih => intro h; rw [remL_succ, remL_succ, ih (by omega), atI_bump at' b n hb, if_neg (by omega)]
theorem drop_head (D : List (List RecR)) (at' : List Int) (b : Nat) (h0 : 0 ≤ atI at' b) (h : atI at' b < ((rowD D b).length : Int)) : (rowD D b).drop (atI at' b).toNat = recD D at' b :: (rowD D b).drop (atI at' b + 1).toNat := by
  have hl : (atI at' b).toNat < (rowD D b).length := by omega
  rw [List.drop_eq_getElem_cons hl, show (atI at' b + 1).toNat = (atI at' b).toNat + 1 by omega]
  unfold recD
  rw [atRec_eq _ _ hl]
theorem remL_bump (D : List (List RecR)) (at' : List Int) (b : Nat) (hb : b < at'.length) (h0 : 0 ≤ atI at' b) (h : atI at' b < ((rowD D b).length : Int)) : ∀ n, b < n → (remL D at' n).Perm (recD D at' b :: remL D (bump at' b) n) := by
  intro n
  induction n with
  | zero => intro h; omega
  | succ n ih =>
    intro hn
    rw [remL_succ, remL_succ, atI_bump at' b n hb]
    by_cases e : b = n
    · subst e
      rw [if_pos rfl, remL_other D at' b hb b (Nat.le_refl _), drop_head D at' b h0 h]
      exact List.perm_middle
    · rw [if_neg e]
      exact (ih (by omega)).append_right _
theorem best_none {D : List (List RecR)} {at' : List Int} : ∀ n, bestAt D at' n = -1 → ∀ k, k < n → ((rowD D k).length : Int) ≤ atI at' k := by
  intro n
  induction n with
  | zero => intro _ k hk; omega
  | succ n ih =>
    intro h k hk
    have hr := bestAt_rng D at' n
    unfold bestAt at h
    split at h
    · omega
    · rename_i hc
      by_cases e : k = n
      · subst e
        rcases Int.lt_or_le (atI at' k) ((rowD D k).length : Int) with hlt | hge
        · exact absurd ⟨hlt, Or.inl (by omega)⟩ hc
        · exact hge
      · exact ih h k (by omega)
theorem best_min {D : List (List RecR)} {at' : List Int} : ∀ n b, bestAt D at' n = ((b : Nat) : Int) → ∀ k, k < n → atI at' k < ((rowD D k).length : Int) → lessR (recD D at' k) (recD D at' b) = false := by
  intro n
  induction n with
  | zero => intro b h; unfold bestAt at h; omega
  | succ n ih =>
    intro b h k hk hak
    have hr := bestAt_rng D at' n
    unfold bestAt at h
    split at h
    · rename_i hc
      have hbn : b = n := by omega
      subst hbn
      by_cases e : k = b
      · subst e; exact swo_less.irrefl _
      · rcases hr with hr | ⟨b', hr, hb', _⟩
        · have := best_none b hr k (by omega); omega
        · have h1 := ih b' hr k (by omega) hak
          have h2 : lessR (recD D at' b) (recD D at' b') = true := by
            rcases hc.2 with hneg | hl
            · omega
            · rw [hr] at hl; exact hl
          rw [Bool.eq_false_iff]
          intro h3
          have := swo_less.trans _ _ _ h3 h2
          rw [h1] at this
          cases this
    · rename_i hc
      by_cases e : k = n
      · subst e
        rw [Bool.eq_false_iff]
        intro h3
        exact hc ⟨hak, Or.inr (by rw [h]; exact h3)⟩
      · exact ih b h k (by omega) hak
theorem rem_min {D : List (List RecR)} {at' : List Int} (hD : ∀ k, OrdL (rowD D k)) (h0 : ∀ k, 0 ≤ atI at' k) {b : Nat} {N : Nat} (hb : bestAt D at' N = (b : Int)) : ∀ n, n ≤ N → ∀ z ∈ remL D at' n, lessR z (recD D at' b) = false := by
  intro n
  induction n with
  | zero => intro _ z hz; simp [remL] at hz
  | succ n ih =>
    intro hn z hz
    rw [remL_succ, List.mem_append] at hz
    rcases hz with hz | hz
    · exact ih (by omega) z hz
    · by_cases hak : atI at' n < ((rowD D n).length : Int)
      · have hm := best_min N b hb n (by omega) hak
        have ho : OrdL ((rowD D n).drop (atI at' n).toNat) := List.Pairwise.drop (hD n)
        rw [drop_head D at' n (h0 n) hak] at ho hz
        unfold OrdL at ho
        rw [List.pairwise_cons] at ho
        rw [List.mem_cons] at hz
        rcases hz with rfl | hz
        · exact hm
        · have := ho.1 z hz
          rw [Bool.not_eq_true'] at this
          exact swo_less.ntrans _ _ _ this hm
      · rw [List.drop_of_length_le (by omega)] at hz
        cases hz
theorem rem_none {D : List (List RecR)} {at' : List Int} : ∀ n, (∀ k, k < n → ((rowD D k).length : Int) ≤ atI at' k) → remL D at' n = [] := by
  intro n
  induction n with
  | zero => intro _; rfl
  | succ n ih =>
    intro h
    rw [remL_succ, ih (fun k hk => h k (by omega)), List.drop_of_length_le (by have := h n (by omega); omega)]
    rfl
theorem merge_spec' {D : List (List RecR)} (hD : ∀ k, OrdL (rowD D k)) : ∀ f (at' : List Int), at'.length = D.length → (∀ k, 0 ≤ atI at' k) → remN D at' D.length < f → OrdL (mergeFrom D f at') ∧ (mergeFrom D f at').Perm (remL D at' D.length) := by
  intro f
  induction f with
  | zero => intro at' _ _ h; omega
  | succ f ih =>
    intro at' hl h0 hf
    rcases bestAt_rng D at' D.length with hb | ⟨b, hb, hbl, hba⟩
    · rw [mergeFrom_stop (f + 1) hb, rem_none D.length (best_none D.length hb)]
      exact ⟨List.Pairwise.nil, List.Perm.refl _⟩
    · rw [mergeFrom_step f hb]
      have hrn := remN_bump D at' b (by omega) (h0 b) hba D.length hbl
      have hb0 : ∀ k, 0 ≤ atI (bump at' b) k := fun k => by
        rw [atI_bump at' b k (by omega)]
        have h1 := h0 b
        have h2 := h0 k
        split <;> omega
      obtain ⟨i1, i2⟩ := ih (bump at' b) (by rw [bump_len]; exact hl) hb0 (by omega)
      have hp := remL_bump D at' b (by omega) (h0 b) hba D.length hbl
      refine ⟨List.pairwise_cons.2 ⟨fun z hz => ?_, i1⟩, (i2.cons _).trans hp.symm⟩
      have hz2 : z ∈ remL D at' D.length := hp.mem_iff.2 (List.mem_cons_of_mem _ (i2.mem_iff.1 hz))
      rw [Bool.not_eq_true']
      exact rem_min hD h0 hb D.length (Nat.le_refl _) z hz2
theorem remL_zero (D : List (List RecR)) : remL D (zerosN D.length) D.length = D.flatten := by
  unfold remL
  congr 1
  apply List.ext_getElem
  · simp
  · intro i h1 h2
    simp only [List.getElem_map, List.getElem_range, zeros_at]
    unfold rowD
    simp [List.getD, h2]
theorem mergeF_sorted {D : List (List RecR)} (hD : ∀ r ∈ D, OrdL r) : mergeF D = sortL D.flatten := by
  have hrow : ∀ k, OrdL (rowD D k) := fun k => by
    unfold rowD
    by_cases h : k < D.length
    · rw [show D.getD k [] = D[k] from by simp [List.getD, h]]
      exact hD _ (List.getElem_mem h)
    · rw [show D.getD k [] = [] from by simp [List.getD, h]]
      exact List.Pairwise.nil
  obtain ⟨h1, h2⟩ := merge_spec' hrow (remN D (zerosN D.length) D.length + 1) (zerosN D.length) (by simp [zerosN]) (fun k => by rw [zeros_at]; omega) (Nat.lt_succ_self _)
  rw [remL_zero] at h2
  exact ord_unique (h2.trans (perm_sortL _).symm) h1 (ord_sortL _)
theorem batGo_flat {s : Nat} (hs : 1 ≤ s) : ∀ (f : Nat) (l : List RecR), l.length ≤ f → (∀ r ∈ batGo s f l, OrdL r) ∧ (batGo s f l).flatten.Perm l := by
  intro f
  induction f with
  | zero => intro l h; exact ⟨fun r hr => by simp [batGo] at hr, by obtain rfl : l = [] := List.eq_nil_of_length_eq_zero (by omega); exact List.Perm.refl _⟩
  | succ f ih =>
    intro l h
    unfold batGo
    split
    · rename_i h0
      exact ⟨fun r hr => by simp at hr, by rw [List.eq_nil_of_length_eq_zero h0]; exact List.Perm.refl _⟩
    · obtain ⟨i1, i2⟩ := ih (l.drop s) (by rw [List.length_drop]; omega)
      refine ⟨fun r hr => ?_, ?_⟩
      · rw [List.mem_cons] at hr
        rcases hr with rfl | hr
        · exact ord_sortL _
        · exact i1 r hr
      · rw [List.flatten_cons]
        have := (perm_sortL (l.take s)).append i2
        rwa [List.take_append_drop] at this
theorem sortAll_eq (l : List RecR) (size : Int) (h : 1 ≤ size) : mergeF (batF l size) = sortL l := by
  unfold batF
  rw [if_neg (by omega)]
  obtain ⟨h1, h2⟩ := batGo_flat (s := size.toNat) (by omega) l.length l (Nat.le_refl _)
  rw [mergeF_sorted h1]
  exact ord_unique ((perm_sortL _).trans (h2.trans (perm_sortL _).symm)) (ord_sortL _) (ord_sortL _)
end Go.Proofs.YthffmjeodoinlaaDoor

/- Numbers put onto a row and read again: the plain laws. No program. -/
import Derived.Test.YtgkgbpgnbnledaaDoorGetVar
import Derived.Test.YtgkgbpgnbnledaaDoorZig
import Derived.Test.YtgkgbpgnbnledaaDoorPutFix
namespace Go.Proofs.YtgkgbpgnbnledaaDoor
open Go.RowKit
theorem vdig_ne (n : Nat) : vdig n ≠ [] := by
  rw [vdig]
  split <;> simp
theorem vrun_vdig (n : Nat) : vrun (vdig n) + 1 = (vdig n).length ∧ vval (vdig n) = n ∧ ((vdig n).getD (vrun (vdig n)) 0 = 0 → vrun (vdig n) = 0) := by
  induction n using Nat.strongRecOn with
  | _ n ih =>
    by_cases h : n < 128
    · rw [vdig_lt h]
      have e : vrun [(n : Int)] = 0 := by unfold vrun; rw [if_pos (by omega)]
      rw [e]
      exact ⟨rfl, by simp [vval]; omega, fun _ => rfl⟩
    · obtain ⟨h1, h2, h3⟩ := ih (n / 128) (by omega)
      rw [vdig_ge h]
      have e : vrun (((n % 128 + 128 : Nat) : Int) :: vdig (n / 128)) = vrun (vdig (n / 128)) + 1 := by
        show (if _ then _ else _) = _
        rw [if_neg (by omega)]
      rw [e]
      refine ⟨by simp; omega, ?_, fun h0 => ?_⟩
      · unfold vval
        rw [h2]
        omega
      · rw [List.getD_cons_succ] at h0
        have hr := h3 h0
        rw [hr] at h0 h1
        have hl : (vdig (n / 128)).length = 1 := by omega
        by_cases hs : n / 128 < 128
        · rw [vdig_lt hs] at h0
          simp at h0
          omega
        · rw [vdig_ge hs] at hl
          simp at hl
          exact absurd hl (vdig_ne _)
theorem getVarF_put (zs : List Int) {n : Nat} (hn : n ≤ 281474976710655) : getVarF (zs ++ vdig n) (zs.length : Int) = ((n : Int), ((zs ++ vdig n).length : Int), true) := by
  obtain ⟨h1, h2, h3⟩ := vrun_vdig n
  have h7 := vdig_len7 hn
  have hl : zs.length < (zs ++ vdig n).length := by rw [List.length_append]; omega
  rw [getVarF_in _ hl, List.drop_left, getVarL_good (vdig n) _ _ rfl (by omega) (by omega) ?_]
  · rw [h1, List.take_length, h2, List.length_append]
    simp only [Prod.mk.injEq, and_true, true_and]
    omega
  · rw [h1, List.take_length, h2]
    rintro (⟨h4, h5⟩ | h4)
    · have := h3 h4; omega
    · omega
theorem getZigF_put (zs : List Int) {x : Int} (h0 : -140737488355328 ≤ x) (h1 : x ≤ 140737488355327) : getZigF (zs ++ vdig (zigN x)) (zs.length : Int) = (x, ((zs ++ vdig (zigN x)).length : Int), true) := by
  have hz : zigN x ≤ 281474976710655 := by
    by_cases h : 0 ≤ x
    · have := zigN_pos h; omega
    · have := zigN_neg h; omega
  unfold getZigF
  rw [getVarF_put zs hz, if_pos rfl]
  simp only [Prod.mk.injEq, and_true]
  by_cases h : 0 ≤ x
  · have := zigN_pos h
    rw [if_pos (by omega)]
    omega
  · have := zigN_neg h
    rw [if_neg (by omega)]
    omega
theorem fixN_part {n : Nat} (hn : n ≤ 281474976710655) : ∀ j, j ≤ 6 → fixN ((fdig n).take j) = n / 256 ^ (6 - j) := by
  intro j
  induction j with
  | zero =>
    intro _
    have : n / 256 ^ 6 = 0 := Nat.div_eq_of_lt (by omega)
    rw [this]
    rfl
  | succ j ih =>
    intro hj
    have h1 := ih (by omega)
    have e := fdig_step n (5 - j) (by omega)
    rw [show 6 - (5 - j) = j + 1 by omega, show 6 - (5 - j + 1) = j by omega] at e
    rw [e, fixN_snoc, h1, ← pow256, show 6 - j = (5 - j) + 1 by omega, ← div256, show 6 - (j + 1) = 5 - j by omega]
    generalize n / 256 ^ (5 - j) = q
    omega
theorem fixN_fdig {n : Nat} (hn : n ≤ 281474976710655) : fixN (fdig n) = n := by
  have := fixN_part hn 6 (Nat.le_refl _)
  rw [List.take_of_length_le (by rw [fdig_len]; exact Nat.le_refl _)] at this
  rw [this]
  simp
theorem getFixF_put (zs : List Int) {n : Nat} (hn : n ≤ 281474976710655) : getFixF (zs ++ fdig n) (zs.length : Int) = ((n : Int), true) := by
  rw [getFixF_yes _ (by rw [List.length_append, fdig_len]; exact Nat.le_refl _), List.drop_left, List.take_of_length_le (by rw [fdig_len]; exact Nat.le_refl _), fixN_fdig hn]
end Go.Proofs.YtgkgbpgnbnledaaDoor

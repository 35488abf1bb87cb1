/- What the statements' marks write into a row of structs. Nothing of the program. -/
import Derived.Test.YtgkgbpgnbnledaaDoorRowS
namespace Go.Proofs.YtgkgbpgnbnledaaDoor
open Go.RowKit
/-- After j of the marks: f 0, .., f (j - 1), then what was there. -/
def mkG {α : Type} (f : Nat → α) (zs : List α) (j : Nat) : List α := (List.range j).map f ++ zs.drop j
theorem mkG_zero {α : Type} (f : Nat → α) (zs : List α) : mkG f zs 0 = zs := by simp [mkG]
theorem mkG_len {α : Type} (f : Nat → α) (zs : List α) (j : Nat) (h : j ≤ zs.length) : (mkG f zs j).length = zs.length := by simp [mkG]; omega
theorem mkG_set {α : Type} (f : Nat → α) (zs : List α) (j : Nat) (h : j < zs.length) : (mkG f zs j).set j (f j) = mkG f zs (j + 1) := by
  unfold mkG
  rw [List.set_append_right _ _ (by simp), List.length_map, List.length_range, Nat.sub_self, List.drop_eq_getElem_cons h, List.set_cons_zero]
  simp [List.range_succ]
theorem mkG_all {α : Type} (f : Nat → α) (zs : List α) : mkG f zs zs.length = (List.range zs.length).map f := by simp [mkG]
end Go.Proofs.YtgkgbpgnbnledaaDoor

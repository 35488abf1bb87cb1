/- Strings out of lists of bytes, in the walk's spelling. Nothing of the program. -/
import Derived.Test.YtoodlmhnemamhaaStr
import Derived.Laws.Concat
namespace Go.Proofs.Ytoodlmhnemamhaa
open Go.RowKit
def mkB (l : List UInt8) : ByteArray := ⟨l.toArray⟩
theorem mkB_data (l : List UInt8) : (mkB l).data.toList = l := by simp [mkB]
theorem mkB_of (s : ByteArray) : mkB s.data.toList = s := by cases s; simp [mkB]
theorem mkB_app (a b : List UInt8) : mkB a ++ mkB b = mkB (a ++ b) := by unfold mkB; rw [ByteArray.mk_append_mk]
theorem mkB_size (l : List UInt8) : (mkB l).size = l.length := by simp [mkB, ByteArray.size]
theorem size_data (s : ByteArray) : s.size = s.data.toList.length := by rw [Array.length_toList]; rfl
theorem bs_data {x y : ByteArray} (h : x.data.toList = y.data.toList) : x = y := by rw [← mkB_of x, ← mkB_of y, h]
theorem bs_eq (x y : ByteArray) : (x.toList == y.toList) = decide (x = y) := by
  by_cases h : x = y
  · subst h; simp
  · rw [decide_eq_false h, beq_eq_false_iff_ne]
    intro e
    apply h
    rw [ByteArray.toList_eq, ByteArray.toList_eq] at e
    exact bs_data e
theorem bs_empty (x : ByteArray) : x.toList.isEmpty = decide (x.data.toList = []) := by
  rw [ByteArray.toList_eq]
  cases x.data.toList <;> simp
theorem mkB_inj {a b : List UInt8} (h : mkB a = mkB b) : a = b := by rw [← mkB_data a, ← mkB_data b, h]
theorem strOf_one (x : Int) : strOfNums [x] = mkB [UInt8.ofNat x.toNat] := bs_data (by rw [strOfNums_data, mkB_data]; rfl)
/-- A sum of lengths that is an int, in the walk's spelling. -/
theorem sum_mk {a b : List UInt8} (h : a.length + b.length ≤ 9223372036854775807) : ¬ 9223372036854775807 < (mkB a).size + (mkB b).size := by rw [mkB_size, mkB_size]; omega
theorem sum_mk1 {b : List UInt8} (h : 1 + b.length ≤ 9223372036854775807) : ¬ 9223372036854775807 < 1 + (mkB b).size := by rw [mkB_size]; omega
theorem sum_1mk {b : List UInt8} (h : b.length + 1 ≤ 9223372036854775807) : ¬ 9223372036854775807 < (mkB b).size + 1 := by rw [mkB_size]; omega
theorem lit_mk (c : UInt8) (b : List UInt8) : (⟨#[c]⟩ : ByteArray) ++ mkB b = mkB (c :: b) := mkB_app [c] b
theorem mk_lit (c : UInt8) (b : List UInt8) : mkB b ++ (⟨#[c]⟩ : ByteArray) = mkB (b ++ [c]) := mkB_app b [c]
end Go.Proofs.Ytoodlmhnemamhaa

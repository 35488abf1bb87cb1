/- FnExactParts: the walk of the law. -/
import Derived.Test.YtgkgbpgnbnledaaDoorPartsM
namespace Go.Proofs.YtgkgbpgnbnledaaDoor
open Go.RowKit
theorem OwnS.rdS {lo hi : Nat} {w : World} {a : Option Addr} {n c : Nat} {xs : List ByteArray} (h : OwnS encS 1 9 lo hi w a n c xs) : Rd encS 1 w a n c xs := OwnS.rd lenS h
set_option maxRecDepth 100000 in
set_option maxHeartbeats 3200000 in
theorem walk_FnExactParts (s : ByteArray) (w : World) (hs : s.size ≤ maxLen) (hm : SomeInt 3 w) :
    Calls Tryd.prog 4 #[.string s] w fun e w' => e = .returned (.bool true) ∧ Below w.heap.size w w' := by
  have hs' := hs
  unfold maxLen at hs'
  by_cases h : s.size ≤ 1048576
  · have HL := Lib.hid (cutAt_len 32 s.data.toList)
    have HSZ := Lib.hid (size_dataB s)
    have c1 := fun w => parts_spec s h w
    have c2 := fun w hm => parts_impl s h w hm
    generalize hX : (cutAt 32 s.data.toList).map mkB = X at *
    have HXL : Hid (X.length ≤ 1048577) := Lib.hid (by rw [← hX, List.length_map]; have := HL.out; have := HSZ.out; omega)
    unfold RetS at c1 c2
    rw [hX] at c1 c2
    clear hX
    go_enter Tryd.func4, Tryd.ntmps4
    go_wp2_with fail
    refine (c1 _).mono ?_
    rintro e w1 ⟨a1, n1, k1, rfl, ho1, hb1⟩
    have hn1 := ho1.len
    have hnb : n1 ≤ 1048577 := by have := HXL.out; omega
    go_wp2_with fail
    refine (c2 _ (hm.later hb1 (Nat.le_refl _))).mono ?_
    rintro e w2 ⟨a2, n2, k2, rfl, ho2, hb2⟩
    have hn2 := ho2.len
    have hnb2 : n2 ≤ 1048577 := by have := HXL.out; omega
    have ho1b := ho1.below hb2
    have B2 := hb1.trans (hb2.mono hb1.size)
    go_wp2_with fail
    refine (eqStringS_any _ _ _ _ _ _ _ _ _ ho2.rdS ho1b.rdS).mono ?_
    rintro e w3 ⟨rfl, hb3⟩
    rw [show decide (X = X) = true from by simp]
    have B3 := B2.trans (hb3.mono B2.size)
    have ho2b := ho2.below hb3
    have ho1c := ho1b.below hb3
    have m3 := hm.later B3 (Nat.le_refl _)
    go_wp2_with fail
    refine (markStringS_row _ _ _ _ 1 _ _ _ ho2b (by omega) (by omega) (by omega)).mono ?_
    rintro e w4 ⟨rfl, ho2c, hw4⟩
    have ho1d := ho1c.win hw4 (Or.inr (Nat.le_refl _))
    have B4 : Below w.heap.size w w4 := B3.trans (hw4.below hb1.size B3.size)
    go_wp2_with fail
    refine (heldStringS_row _ _ _ 1 _ ho2c.rdS (by omega) (by omega) (by omega)).mono ?_
    rintro e w5 ⟨rfl, hb5⟩
    have B5 := B4.trans (hb5.mono B4.size)
    have ho1e := ho1d.below hb5
    have ho2d := ho2c.below hb5
    go_wp2_with fail
    refine (c2 _ (hm.later B5 (Nat.le_refl _))).mono ?_
    rintro e w6 ⟨a3, n3, k3, rfl, ho3, hb6⟩
    have B6 := B5.trans (hb6.mono B5.size)
    have ho1f := ho1e.below hb6
    have ho2e := ho2d.below hb6
    go_wp2_with fail
    refine (eqStringS_any _ _ _ _ _ _ _ _ _ ho3.rdS ho1f.rdS).mono ?_
    rintro e w7 ⟨rfl, hb7⟩
    rw [show decide (X = X) = true from by simp]
    have B7 := B6.trans (hb7.mono B6.size)
    have ho2f := ho2e.below hb7
    go_wp2_with fail
    refine (heldStringS_row _ _ _ 1 _ ho2f.rdS (by omega) (by omega) (by omega)).mono ?_
    rintro e w8 ⟨rfl, hb8⟩
    have B8 := B7.trans (hb8.mono B7.size)
    go_wp2
    go_ret
    exact ⟨rfl, B8⟩
  · go_enter Tryd.func4, Tryd.ntmps4
    go_wp2
    go_ret
    exact ⟨rfl, Below.refl _ _⟩
end Go.Proofs.YtgkgbpgnbnledaaDoor

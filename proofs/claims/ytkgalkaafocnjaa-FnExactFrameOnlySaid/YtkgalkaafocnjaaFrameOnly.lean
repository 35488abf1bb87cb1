/- FrameOnly: what it computes, in the form that the laws' walks use. -/
import Derived.Test.YtkgalkaafocnjaaFrameRead
namespace Go.Proofs.Ytkgalkaafocnjaa
open Go.RowKit
def frameOnlyF (zs : List Int) (k : Int) : List Int × Bool := if (frameReadF zs 0).2.2 = 0 ∧ (frameReadF zs 0).2.1 = (zs.length : Int) ∧ (frameReadF zs 0).1.1 = k then ((frameReadF zs 0).1.2, true) else ([], false)
theorem frameOnlyF_yes {zs : List Int} {k : Int} (h1 : (frameReadF zs 0).2.2 = 0) (h2 : (frameReadF zs 0).2.1 = (zs.length : Int)) (h3 : (frameReadF zs 0).1.1 = k) : frameOnlyF zs k = ((frameReadF zs 0).1.2, true) := if_pos ⟨h1, h2, h3⟩
theorem frameOnlyF_no {zs : List Int} {k : Int} (h : ¬ ((frameReadF zs 0).2.2 = 0 ∧ (frameReadF zs 0).2.1 = (zs.length : Int) ∧ (frameReadF zs 0).1.1 = k)) : frameOnlyF zs k = ([], false) := if_neg h
/-- A call's end: it returned a new row of bytes and a bool. -/
def RetBK (r : List Int × Bool) (w : World) (en : Ending) (w' : World) : Prop := ∃ y : Row Int, en = .returned (.tuple #[.slice y.a y.n y.c, .bool r.2]) ∧ datByteS y = r.1 ∧ OwnByteS w.heap.size w'.heap.size w' y ∧ bulkByteS y ≤ 1048576 ∧ Below w.heap.size w w'
theorem RetBK.none {w w' : World} (hb : Below w.heap.size w w') : RetBK ([], false) w (.returned (.tuple #[.slice none 0 0, .bool false])) w' :=
  ⟨⟨Option.none, 0, 0, []⟩, rfl, rfl, ⟨((OwnI.nil _ _ _ _).toS).lo_le hb.size⟩, Nat.zero_le _, hb⟩
set_option maxRecDepth 100000 in
set_option maxHeartbeats 1600000 in
theorem frameOnly_impl_k (y : Row Int) (D : List Int) (hD : datByteS y = D) (k : Int) (w : World) (g : rdByteS w y) (o : ∀ z ∈ D, In8 z) (_g1 : In64 k) (hn : bulkByteS y ≤ 1048576) :
    Calls Try.prog 41 #[.slice y.a y.n y.c, .int .i64 k] w fun e w' => RetBK (frameOnlyF D k) w e w' := by
  have hm := g.max
  have hle := g.le
  have HL : Hid (D.length = y.n) := Lib.hid (by subst hD; exact g.len)
  have HD := Lib.hid hD
  unfold maxLen at hm
  clear hD
  go_enter Try.func41, Try.ntmps41
  go_wp2_with fail
  refine (frameRead_impl_k y D HD.out 0 _ g o (by unfold In64; omega) hn).mono ?_
  rintro e w1 ⟨⟨fk, fa, fn, fc, fd⟩, rfl, hdf, ho, hbk, hb⟩
  have HDF : Hid ((fk, fd) = (frameReadF D 0).1) := Lib.hid hdf
  clear hdf
  simp only
  have H1 : Hid ((frameReadF D 0).1.1 = fk) := Lib.hid (by rw [← HDF.out])
  have HNO : Hid (¬ ((frameReadF D 0).2.2 = 0 ∧ (frameReadF D 0).2.1 = (y.n : Int) ∧ fk = k) → frameOnlyF D k = ([], false)) := Lib.hid (fun h => frameOnlyF_no (by rw [H1.out, HL.out]; exact h))
  have HYES : Hid ((frameReadF D 0).2.2 = 0 → (frameReadF D 0).2.1 = (y.n : Int) → fk = k → frameOnlyF D k = (fd, true)) := Lib.hid (fun h1 h2 h3 => by rw [frameOnlyF_yes h1 (by rw [HL.out]; exact h2) (by rw [H1.out]; exact h3), ← HDF.out])
  have hb1 := hb.alloc (Nat.le_trans (Nat.le_refl _) hb.size) (.cells #[.int .i64 fk, .slice fa fn fc] 43)
  generalize frameReadF D 0 = R at *
  by_cases c1 : R.2.2 = 0
  · have i1 : (R.2.2 != 0) = false := by simp [c1]
    by_cases c2 : R.2.1 = (y.n : Int)
    · have i2 : (R.2.1 != (y.n : Int)) = false := by simp [c2]
      by_cases c3 : fk = k
      · have HY := Lib.hid (HYES.out c1 c2 c3)
        have i3 : (fk != k) = false := by simp [c3]
        have HO := Lib.hid ho.row
        have hbk' := hbk
        clear c1 c2 c3 ho hbk
        go_wp2
        go_ret2
        rw [HY.out]
        exact ⟨⟨fa, fn, fc, fd⟩, rfl, rfl, ⟨(HO.out.below ((Below.refl _ _).alloc (Nat.le_refl _) _)).grow (by simp) (Nat.le_refl _)⟩, hbk', hb1⟩
      · have HY := Lib.hid (HNO.out (fun h => c3 h.2.2))
        have i3 : (fk != k) = true := by simp [c3]
        clear c1 c2 c3
        go_wp2
        go_ret2
        rw [HY.out]
        exact RetBK.none hb1
    · have HY := Lib.hid (HNO.out (fun h => c2 h.2.1))
      have i2 : (R.2.1 != (y.n : Int)) = true := by simp [c2]
      clear c1 c2
      go_wp2
      go_ret2
      rw [HY.out]
      exact RetBK.none hb1
  · have HY := Lib.hid (HNO.out (fun h => c1 h.1))
    have i1 : (R.2.2 != 0) = true := by simp [c1]
    clear c1
    go_wp2
    go_ret2
    rw [HY.out]
    exact RetBK.none hb1
set_option maxRecDepth 100000 in
set_option maxHeartbeats 1600000 in
theorem frameOnly_spec_k (y : Row Int) (D : List Int) (hD : datByteS y = D) (k : Int) (w : World) (g : rdByteS w y) (o : ∀ z ∈ D, In8 z) (_g1 : In64 k) (hn : bulkByteS y ≤ 1048576) :
    Calls Try.prog 40 #[.slice y.a y.n y.c, .int .i64 k] w fun e w' => RetBK (frameOnlyF D k) w e w' := by
  have hm := g.max
  have hle := g.le
  have HL : Hid (D.length = y.n) := Lib.hid (by subst hD; exact g.len)
  have HD := Lib.hid hD
  unfold maxLen at hm
  clear hD
  go_enter Try.func40, Try.ntmps40
  go_wp2_with fail
  refine (frameRead_spec_k y D HD.out 0 _ g o (by unfold In64; omega) hn).mono ?_
  rintro e w1 ⟨⟨fk, fa, fn, fc, fd⟩, rfl, hdf, ho, hbk, hb⟩
  have HDF : Hid ((fk, fd) = (frameReadF D 0).1) := Lib.hid hdf
  clear hdf
  simp only
  have H1 : Hid ((frameReadF D 0).1.1 = fk) := Lib.hid (by rw [← HDF.out])
  have HNO : Hid (¬ ((frameReadF D 0).2.2 = 0 ∧ (frameReadF D 0).2.1 = (y.n : Int) ∧ fk = k) → frameOnlyF D k = ([], false)) := Lib.hid (fun h => frameOnlyF_no (by rw [H1.out, HL.out]; exact h))
  have HYES : Hid ((frameReadF D 0).2.2 = 0 → (frameReadF D 0).2.1 = (y.n : Int) → fk = k → frameOnlyF D k = (fd, true)) := Lib.hid (fun h1 h2 h3 => by rw [frameOnlyF_yes h1 (by rw [HL.out]; exact h2) (by rw [H1.out]; exact h3), ← HDF.out])
  have hb1 := hb.alloc (Nat.le_trans (Nat.le_refl _) hb.size) (.cells #[.int .i64 fk, .slice fa fn fc] 43)
  generalize frameReadF D 0 = R at *
  by_cases c1 : R.2.2 = 0
  · have i1 : (R.2.2 != 0) = false := by simp [c1]
    by_cases c2 : R.2.1 = (y.n : Int)
    · have i2 : (R.2.1 != (y.n : Int)) = false := by simp [c2]
      by_cases c3 : fk = k
      · have HY := Lib.hid (HYES.out c1 c2 c3)
        have i3 : (fk != k) = false := by simp [c3]
        have HO := Lib.hid ho.row
        have hbk' := hbk
        clear c1 c2 c3 ho hbk
        go_wp2
        go_ret2
        rw [HY.out]
        exact ⟨⟨fa, fn, fc, fd⟩, rfl, rfl, ⟨(HO.out.below ((Below.refl _ _).alloc (Nat.le_refl _) _)).grow (by simp) (Nat.le_refl _)⟩, hbk', hb1⟩
      · have HY := Lib.hid (HNO.out (fun h => c3 h.2.2))
        have i3 : (fk != k) = true := by simp [c3]
        clear c1 c2 c3
        go_wp2
        go_ret2
        rw [HY.out]
        exact RetBK.none hb1
    · have HY := Lib.hid (HNO.out (fun h => c2 h.2.1))
      have i2 : (R.2.1 != (y.n : Int)) = true := by simp [c2]
      clear c1 c2
      go_wp2
      go_ret2
      rw [HY.out]
      exact RetBK.none hb1
  · have HY := Lib.hid (HNO.out (fun h => c1 h.1))
    have i1 : (R.2.2 != 0) = true := by simp [c1]
    clear c1
    go_wp2
    go_ret2
    rw [HY.out]
    exact RetBK.none hb1
end Go.Proofs.Ytkgalkaafocnjaa

/- Marks on a disk, and whether they are held. -/
import Derived.Test.YtoodlmhnemamhaaDiskU
import Derived.Test.YtoodlmhnemamhaaFileMK
import Derived.Test.YtoodlmhnemamhaaFsOpMK
namespace Go.Proofs.Ytoodlmhnemamhaa
open Go.RowKit
def cntDisk (y : DiskR) : Nat := cntFileS (fR y) + cntFsOpS (oR y)
theorem cntDisk_own {lo hi : Nat} {w : World} {y : DiskR} {b : Nat} (h : OwnDisk lo hi w y) (hb : bulkDisk y ≤ b) : cntDisk y ≤ 1000 * b := by
  obtain ⟨⟨m, h1, h2, h3, h4⟩, ht⟩ := h
  unfold bulkDisk at hb
  have a1 := cntFileS_own h3 (Nat.le_refl _)
  have a2 := cntFsOpS_own h4 (Nat.le_refl _)
  unfold cntDisk
  omega
def HeldDisk (k : Int) (w : World) (y : DiskR) : Prop := (cntDisk y ≤ 2097152000) ∧ HeldFileS k w (fR y) ∧ HeldFsOpS (k + (cntFileS (fR y) : Int)) w (oR y)
theorem HeldDisk.below {k : Int} {w w' : World} {y : DiskR} (h : HeldDisk k w y) (hb : Below w.heap.size w w') : HeldDisk k w' y := ⟨h.1, h.2.1.below hb, h.2.2.below hb⟩
set_option maxHeartbeats 3200000 in
theorem markDisk_k (y : DiskR) (k : Int) (lo hi : Nat) (w : World) (h : OwnDisk lo hi w y) (hn : bulkDisk y ≤ 2097152) (hk0 : 0 ≤ k) (hk1 : k ≤ 1152921500000000000) :
    Calls Try.prog 18 #[.agg #[.int .i64 y.room, .int .i64 y.fuse, .slice y.filesA y.filesN y.filesC, .slice y.waitA y.waitN y.waitC], .int .i64 k] w fun e w' => e = .returned (.int .i64 (k + cntDisk y)) ∧ HeldDisk k w' y ∧ Win lo hi w w' := by
  have hcd : cntDisk y ≤ 2097152000 := by have := cntDisk_own h hn; omega
  obtain ⟨⟨m, h1, h2, h3, h4⟩, ht⟩ := h
  have hcf : cntFileS (fR y) + cntFsOpS (oR y) ≤ 2097152000 := hcd
  have hn1 : bulkFileS (fR y) ≤ 2097152 := by unfold bulkDisk at hn; omega
  have hn2 : bulkFsOpS (oR y) ≤ 2097152 := by unfold bulkDisk at hn; omega
  have HCD := Lib.hid hcd
  have HN2 := Lib.hid hn2
  have HN1 := Lib.hid hn1
  have hb0 := (Below.refl w.heap.size w).alloc (Nat.le_refl _) (.cells #[.int .i64 y.room, .int .i64 y.fuse, .slice y.filesA y.filesN y.filesC, .slice y.waitA y.waitN y.waitC] 34)
  have c3 : (w.alloc (.cells #[.int .i64 y.room, .int .i64 y.fuse, .slice y.filesA y.filesN y.filesC, .slice y.waitA y.waitN y.waitC] 34)).cell? ⟨w.heap.size, 3, none⟩ = some (.slice y.waitA y.waitN y.waitC) := by simp [go_sem]
  have O3 := Lib.hid (h3.below hb0)
  have O4 := Lib.hid (h4.below hb0)
  go_enter Try.func18, Try.ntmps18
  go_wp2_with fail
  generalize w.alloc (.cells #[.int .i64 y.room, .int .i64 y.fuse, .slice y.filesA y.filesN y.filesC, .slice y.waitA y.waitN y.waitC] 34) = W0 at *
  refine (markFileS_o (fR y) k lo m _ O3.out HN1.out hk0 (by omega)).mono ?_
  rintro e w1 ⟨rfl, o1, hw1⟩
  have d3 : w1.cell? ⟨w.heap.size, 3, none⟩ = some (.slice y.waitA y.waitN y.waitC) := cell_win hw1 c3 (by show w.heap.size < lo ∨ m ≤ w.heap.size; omega)
  have O4b := Lib.hid (O4.out.win hw1 (Or.inl (Nat.le_refl _)))
  have O1 := Lib.hid o1
  have HW1 := Lib.hid hw1
  clear o1 hw1 O3 O4 c3
  go_wp2_with fail
  refine (markFsOpS_o (oR y) _ m hi _ O4b.out HN2.out (by omega) (by omega)).mono ?_
  rintro e w2 ⟨rfl, o2, hw2⟩
  have O1b := Lib.hid (O1.out.win hw2 (Or.inr (Nat.le_refl _)))
  have O2 := Lib.hid o2
  have HW := Lib.hid (((Win.of_below (lo := lo) (hi := hi) hb0).trans (HW1.out.mono (Nat.le_refl _) h2)).trans (hw2.mono h1 (Nat.le_refl _)))
  clear o2 hw2
  have hsum : k + (cntFileS (fR y) : Int) + (cntFsOpS (oR y) : Int) = k + (cntDisk y : Int) := by unfold cntDisk; omega
  have HSUM := Lib.hid hsum
  clear hsum
  go_wp2
  go_ret
  exact ⟨by rw [← HSUM.out] <;> rfl, ⟨HCD.out, heldFileS_of O1b.out HN1.out, heldFsOpS_of O2.out HN2.out⟩, HW.out⟩
set_option maxHeartbeats 3200000 in
theorem heldDisk_k (y : DiskR) (k : Int) (w : World) (h : HeldDisk k w y) (hk0 : 0 ≤ k) (hk1 : k ≤ 1152921500000000000) :
    Calls Try.prog 19 #[.agg #[.int .i64 y.room, .int .i64 y.fuse, .slice y.filesA y.filesN y.filesC, .slice y.waitA y.waitN y.waitC], .int .i64 k] w fun e w' => e = .returned (.int .i64 (k + cntDisk y)) ∧ Below w.heap.size w w' := by
  obtain ⟨hcd, h3, h4⟩ := h
  have hcf : cntFileS (fR y) + cntFsOpS (oR y) ≤ 2097152000 := hcd
  have hb0 := (Below.refl w.heap.size w).alloc (Nat.le_refl _) (.cells #[.int .i64 y.room, .int .i64 y.fuse, .slice y.filesA y.filesN y.filesC, .slice y.waitA y.waitN y.waitC] 34)
  have c3 : (w.alloc (.cells #[.int .i64 y.room, .int .i64 y.fuse, .slice y.filesA y.filesN y.filesC, .slice y.waitA y.waitN y.waitC] 34)).cell? ⟨w.heap.size, 3, none⟩ = some (.slice y.waitA y.waitN y.waitC) := by simp [go_sem]
  have O3 := Lib.hid (h3.below hb0)
  have O4 := Lib.hid (h4.below hb0)
  have hq1 : ¬ k + (cntFileS (fR y) : Int) < 0 := by omega
  have hq2 : ¬ k + (cntFileS (fR y) : Int) + (cntFsOpS (oR y) : Int) < 0 := by omega
  go_enter Try.func19, Try.ntmps19
  go_wp2_with fail
  generalize w.alloc (.cells #[.int .i64 y.room, .int .i64 y.fuse, .slice y.filesA y.filesN y.filesC, .slice y.waitA y.waitN y.waitC] 34) = W0 at *
  refine (heldFileS_k (fR y) k _ O3.out hk0 (by omega)).mono ?_
  rintro e w1 ⟨rfl, hb1⟩
  have d3 := cell_later hb1 c3
  have O4b := Lib.hid (O4.out.below hb1)
  have BB1 := hb0.trans (hb1.mono hb0.size)
  go_wp2_with fail
  refine (heldFsOpS_k (oR y) _ _ O4b.out (by omega) (by omega)).mono ?_
  rintro e w2 ⟨rfl, hb2⟩
  have BB2 := BB1.trans (hb2.mono BB1.size)
  have hsum : k + (cntFileS (fR y) : Int) + (cntFsOpS (oR y) : Int) = k + (cntDisk y : Int) := by unfold cntDisk; omega
  have HSUM := Lib.hid hsum
  clear hsum
  go_wp2
  go_ret
  exact ⟨by rw [← HSUM.out] <;> rfl, BB2⟩
end Go.Proofs.Ytoodlmhnemamhaa

/- Two disks compared. -/
import Derived.Test.YtoodlmhnemamhaaDiskU
namespace Go.Proofs.Ytoodlmhnemamhaa
open Go.RowKit
instance decOps : DecidableEq (List (Int × ByteArray × ByteArray × List Int)) := inferInstance
instance decFls : DecidableEq (List (ByteArray × List Int)) := inferInstance
instance decDsk : DecidableEq DskD := @instDecidableEqProd _ _ _ (@instDecidableEqProd _ _ _ (@instDecidableEqProd _ _ decFls decOps))
set_option maxHeartbeats 3200000 in
theorem eqDisk_k (x y : DiskR) (D D' : DskD) (hD : datDisk x = D) (hD' : datDisk y = D') (w : World) (h : rdDisk w x) (h' : rdDisk w y) :
    Calls Try.prog 17 #[.agg #[.int .i64 x.room, .int .i64 x.fuse, .slice x.filesA x.filesN x.filesC, .slice x.waitA x.waitN x.waitC], .agg #[.int .i64 y.room, .int .i64 y.fuse, .slice y.filesA y.filesN y.filesC, .slice y.waitA y.waitN y.waitC]] w fun e w' => e = .returned (.bool (decide (D = D'))) ∧ Below w.heap.size w w' := by
  subst hD
  subst hD'
  have hb0 := ((Below.refl w.heap.size w).alloc (Nat.le_refl _) (.cells #[.int .i64 x.room, .int .i64 x.fuse, .slice x.filesA x.filesN x.filesC, .slice x.waitA x.waitN x.waitC] 34)).alloc (by simp) (.cells #[.int .i64 y.room, .int .i64 y.fuse, .slice y.filesA y.filesN y.filesC, .slice y.waitA y.waitN y.waitC] 34)
  have HX := Lib.hid (rdDisk_below h hb0 (Nat.le_refl _))
  have HY := Lib.hid (rdDisk_below h' hb0 (Nat.le_refl _))
  have HE : Hid (datDisk x = datDisk y ↔ x.room = y.room ∧ x.fuse = y.fuse ∧ datFileS (fR x) = datFileS (fR y) ∧ datFsOpS (oR x) = datFsOpS (oR y)) := Lib.hid (by unfold datDisk; simp only [Prod.mk.injEq])
  clear h h'
  by_cases c0 : x.room = y.room
  · by_cases c1 : x.fuse = y.fuse
    · rw [← c0, ← c1] at hb0 HX HY ⊢
      by_cases c2 : datFileS (fR x) = datFileS (fR y)
      · have HF := Lib.hid (decide_eq_true c2)
        by_cases c3 : datFsOpS (oR x) = datFsOpS (oR y)
        · have HO := Lib.hid (decide_eq_true c3)
          have HR : Hid (decide (datDisk x = datDisk y) = true) := Lib.hid (decide_eq_true (HE.out.2 ⟨c0, c1, c2, c3⟩))
          clear c0 c1 c2 c3 HE
          go_enter Try.func17, Try.ntmps17
          go_wp2_with fail
          refine (eqFileS_k (fR x) (fR y) _ _ rfl rfl _ HX.out.1 HY.out.1).mono ?_
          rintro e w1 ⟨rfl, hb1⟩
          rw [show decide (datFileS (fR x) = datFileS (fR y)) = _ from HF.out]
          obtain ⟨hc, _⟩ := bcell hb1
          have a3 : w1.cell? ⟨w.heap.size, 3, none⟩ = some (.slice x.waitA x.waitN x.waitC) := by rw [hc _ _ (by simp; omega)]; simp [go_sem]
          have b3 : w1.cell? ⟨w.heap.size + 1, 3, none⟩ = some (.slice y.waitA y.waitN y.waitC) := by rw [hc _ _ (by simp)]; simp [go_sem]
          have BB1 := hb0.trans (hb1.mono hb0.size)
          have HX1 := Lib.hid (rdDisk_below HX.out hb1 (Nat.le_refl _))
          have HY1 := Lib.hid (rdDisk_below HY.out hb1 (Nat.le_refl _))
          clear hc
          go_wp2_with fail
          refine (eqFsOpS_k (oR x) (oR y) _ _ rfl rfl _ HX1.out.2 HY1.out.2).mono ?_
          rintro e w2 ⟨rfl, hb2⟩
          rw [HO.out]
          have BB2 := BB1.trans (hb2.mono BB1.size)
          go_wp2
          go_ret
          exact ⟨by rw [HR.out] <;> rfl, BB2⟩
        · have HO := Lib.hid (decide_eq_false c3)
          have HR : Hid (decide (datDisk x = datDisk y) = false) := Lib.hid (decide_eq_false (fun e => c3 (HE.out.1 e).2.2.2))
          clear c0 c1 c2 c3 HE
          go_enter Try.func17, Try.ntmps17
          go_wp2_with fail
          refine (eqFileS_k (fR x) (fR y) _ _ rfl rfl _ HX.out.1 HY.out.1).mono ?_
          rintro e w1 ⟨rfl, hb1⟩
          rw [show decide (datFileS (fR x) = datFileS (fR y)) = _ from HF.out]
          obtain ⟨hc, _⟩ := bcell hb1
          have a3 : w1.cell? ⟨w.heap.size, 3, none⟩ = some (.slice x.waitA x.waitN x.waitC) := by rw [hc _ _ (by simp; omega)]; simp [go_sem]
          have b3 : w1.cell? ⟨w.heap.size + 1, 3, none⟩ = some (.slice y.waitA y.waitN y.waitC) := by rw [hc _ _ (by simp)]; simp [go_sem]
          have BB1 := hb0.trans (hb1.mono hb0.size)
          have HX1 := Lib.hid (rdDisk_below HX.out hb1 (Nat.le_refl _))
          have HY1 := Lib.hid (rdDisk_below HY.out hb1 (Nat.le_refl _))
          clear hc
          go_wp2_with fail
          refine (eqFsOpS_k (oR x) (oR y) _ _ rfl rfl _ HX1.out.2 HY1.out.2).mono ?_
          rintro e w2 ⟨rfl, hb2⟩
          rw [HO.out]
          have BB2 := BB1.trans (hb2.mono BB1.size)
          go_wp2
          go_ret
          exact ⟨by rw [HR.out] <;> rfl, BB2⟩
      · have HF := Lib.hid (decide_eq_false c2)
        have HR : Hid (decide (datDisk x = datDisk y) = false) := Lib.hid (decide_eq_false (fun e => c2 (HE.out.1 e).2.2.1))
        clear c0 c1 c2 HE
        go_enter Try.func17, Try.ntmps17
        go_wp2_with fail
        refine (eqFileS_k (fR x) (fR y) _ _ rfl rfl _ HX.out.1 HY.out.1).mono ?_
        rintro e w1 ⟨rfl, hb1⟩
        rw [show decide (datFileS (fR x) = datFileS (fR y)) = _ from HF.out]
        have BB1 := hb0.trans (hb1.mono hb0.size)
        go_wp2
        go_ret
        exact ⟨by rw [HR.out] <;> rfl, BB1⟩
    · have HR : Hid (decide (datDisk x = datDisk y) = false) := Lib.hid (decide_eq_false (fun e => c1 (HE.out.1 e).2.1))
      rw [← c0] at hb0 ⊢
      clear HE HX HY c0
      go_enter Try.func17, Try.ntmps17
      go_wp2
      go_ret
      exact ⟨by rw [HR.out] <;> rfl, hb0⟩
  · have HR : Hid (decide (datDisk x = datDisk y) = false) := Lib.hid (decide_eq_false (fun e => c0 (HE.out.1 e).1))
    clear HE HX HY
    go_enter Try.func17, Try.ntmps17
    go_wp2
    go_ret
    exact ⟨by rw [HR.out] <;> rfl, hb0⟩
end Go.Proofs.Ytoodlmhnemamhaa

/- DiskOk of the reference: the head fails. -/
import Derived.Test.YtoodlmhnemamhaaDiskQ
import Derived.Test.YtoodlmhnemamhaaDiskM
namespace Go.Proofs.Ytoodlmhnemamhaa
open Go.RowKit
set_option maxRecDepth 100000 in
set_option maxHeartbeats 12800000 in
theorem diskOk_spec_n (y : DiskR) (w : World) (g : rdDisk w y) (hst : strDisk y) (gi : In64 y.room ∧ In64 y.fuse) (hn : bulkDisk y ≤ 1048576) (hh : ¬ (0 ≤ y.room ∧ y.room ≤ 200000 ∧ -1 ≤ y.fuse ∧ y.fuse ≤ 2000 ∧ y.filesN ≤ 12 ∧ y.waitN ≤ 60)) :
    Calls Try.prog 21 #[.agg #[.int .i64 y.room, .int .i64 y.fuse, .slice y.filesA y.filesN y.filesC, .slice y.waitA y.waitN y.waitC]] w fun e w' => e = .returned (.bool (diskB y.room y.fuse (y.files.map datFile) (y.wait.map datFsOp))) ∧ Below w.heap.size w w' := by
  obtain ⟨room, fuse, fA, fN, fC, fs, oA, oN, oC, os⟩ := y
  obtain ⟨⟨gf, gfi⟩, go, goi⟩ := g
  obtain ⟨hst1, hst2⟩ := hst
  unfold bulkDisk at hn
  obtain ⟨gi1, gi2⟩ := gi
  unfold In64 at gi1 gi2
  simp only [fR, oR] at gf gfi go goi hst1 hst2 hn gi1 gi2 hh ⊢
  have HSB : Hid (sizeF (fs.map datFile) ≤ 1048576) := Lib.hid (by have := size_bulk (w := w) (y := ⟨fA, fN, fC, fs⟩) ⟨gf, gfi⟩; unfold datFileS at this; simp only at this; omega)
  have HFL : Hid (fs.length = fN) := Lib.hid gf.len
  have HOL : Hid (os.length = oN) := Lib.hid go.len
  have HDN : Hid (∀ k, k < os.length → (atFsOp os k).dataN ≤ 1048576) := Lib.hid (fun k hk => by
    have h1 := preFsOp_top os k hk
    have h2 : bulkFsOpS ⟨oA, oN, oC, os⟩ = oN + preFsOp os os.length := rfl
    have h3 : (atFsOp os k).dataN ≤ bulkFsOp (atFsOp os k) := by unfold bulkFsOp; omega
    omega)
  have HG := Lib.hid gfi
  have HGO := Lib.hid goi
  have HS1 := Lib.hid hst1
  have HS2 := Lib.hid hst2
  have fm := gf.max
  have fl := gf.le
  have om := go.max
  have ol := go.le
  unfold maxLen at fm om
  have hb0 := (Below.refl w.heap.size w).alloc (Nat.le_refl _) (.cells #[.int .i64 room, .int .i64 fuse, .slice fA fN fC, .slice oA oN oC] 34)
  have HHD := Lib.hid (fun h => diskB_head (room := room) (fuse := fuse) (F := fs.map datFile) (O := os.map datFsOp) h)
  clear gfi goi hst1 hst2 hn
  have HX := Lib.hid (HHD.out (by rw [List.length_map, List.length_map, HFL.out, HOL.out]; exact hh))
  rw [HX.out]
  have C0 : (w.alloc (.cells #[.int .i64 room, .int .i64 fuse, .slice fA fN fC, .slice oA oN oC] 34)).cell? ⟨w.heap.size, 0, none⟩ = some (.int .i64 room) := by simp [go_sem]
  have C1 : (w.alloc (.cells #[.int .i64 room, .int .i64 fuse, .slice fA fN fC, .slice oA oN oC] 34)).cell? ⟨w.heap.size, 1, none⟩ = some (.int .i64 fuse) := by simp [go_sem]
  have C2 : (w.alloc (.cells #[.int .i64 room, .int .i64 fuse, .slice fA fN fC, .slice oA oN oC] 34)).cell? ⟨w.heap.size, 2, none⟩ = some (.slice fA fN fC) := by simp [go_sem]
  have C3 : (w.alloc (.cells #[.int .i64 room, .int .i64 fuse, .slice fA fN fC, .slice oA oN oC] 34)).cell? ⟨w.heap.size, 3, none⟩ = some (.slice oA oN oC) := by simp [go_sem]
  go_enter Try.func21, Try.ntmps21
  go_wp2_with fail
  generalize w.alloc (.cells #[.int .i64 room, .int .i64 fuse, .slice fA fN fC, .slice oA oN oC] 34) = W0 at *
  have hcases : room < 0 ∨ (0 ≤ room ∧ 200000 < room) ∨ (0 ≤ room ∧ room ≤ 200000 ∧ fuse < -1) ∨ (0 ≤ room ∧ room ≤ 200000 ∧ -1 ≤ fuse ∧ 2000 < fuse) ∨ (0 ≤ room ∧ room ≤ 200000 ∧ -1 ≤ fuse ∧ fuse ≤ 2000 ∧ (12 : Int) < (fN : Int)) ∨ (0 ≤ room ∧ room ≤ 200000 ∧ -1 ≤ fuse ∧ fuse ≤ 2000 ∧ (fN : Int) ≤ 12 ∧ (60 : Int) < (oN : Int)) := by omega
  clear hh HHD
  rcases hcases with h | ⟨h, h2⟩ | ⟨h, h2, h3⟩ | ⟨h, h2, h3, h4⟩ | ⟨h, h2, h3, h4, h5⟩ | ⟨h, h2, h3, h4, h5, h6⟩
  all_goals
    go_quiet (fail)
    generalize hwd : W0.drewN _ = wd
    have hbd : Below W0.heap.size W0 wd := by rw [← hwd]; exact ⟨rfl, rfl, rfl, Nat.le_refl _, fun _ _ => rfl⟩
    have BB := hb0.trans (hbd.mono hb0.size)
    clear hwd
    go_wp2
    go_ret
    exact ⟨rfl, BB⟩
end Go.Proofs.Ytoodlmhnemamhaa

/- Disk in the form that the laws' walks use: szDisk, toDisk, eqDisk over a Disk of the call's own. -/
import Derived.Test.YtoodlmhnemamhaaTyDisk
import Derived.Test.YtoodlmhnemamhaaFileSK
import Derived.Test.YtoodlmhnemamhaaFsOpSK
import Derived.Test.YtoodlmhnemamhaaKeep
namespace Go.Proofs.Ytoodlmhnemamhaa
open Go.RowKit
def fR (y : DiskR) : Row FileR := ⟨y.filesA, y.filesN, y.filesC, y.files⟩
def oR (y : DiskR) : Row FsOpR := ⟨y.waitA, y.waitN, y.waitC, y.wait⟩
abbrev DskD := Int × Int × List (ByteArray × List Int) × List (Int × ByteArray × ByteArray × List Int)
def datDisk (y : DiskR) : DskD := (y.room, y.fuse, datFileS (fR y), datFsOpS (oR y))
def okDisk (y : DiskR) : Prop := In64 y.room ∧ In64 y.fuse ∧ (∀ f ∈ y.files, okFile f) ∧ ∀ o ∈ y.wait, okFsOp o
def rdDisk (w : World) (y : DiskR) : Prop := rdFileS w (fR y) ∧ rdFsOpS w (oR y)
theorem rdDisk_below {w w' : World} {y : DiskR} (h : rdDisk w y) {B : Nat} (hb : Below B w w') (hB : w.heap.size ≤ B) : rdDisk w' y := ⟨rdFileS_below h.1 hb hB, rdFsOpS_below h.2 hb hB⟩
structure OwnDisk (lo hi : Nat) (w : World) (y : DiskR) : Prop where
  mid : ∃ m, lo ≤ m ∧ m ≤ hi ∧ OwnFileS lo m w (fR y) ∧ OwnFsOpS m hi w (oR y)
  top : hi ≤ w.heap.size
theorem OwnDisk.below {lo hi : Nat} {w w' : World} {y : DiskR} (h : OwnDisk lo hi w y) (hb : Below w.heap.size w w') : OwnDisk lo hi w' y := by
  obtain ⟨⟨m, h1, h2, h3, h4⟩, ht⟩ := h
  exact ⟨⟨m, h1, h2, h3.below hb, h4.below hb⟩, Nat.le_trans ht hb.size⟩
theorem OwnDisk.win {lo hi lo' hi' : Nat} {w w' : World} {y : DiskR} (h : OwnDisk lo hi w y) (hw : Win lo' hi' w w') (hd : hi' ≤ lo ∨ hi ≤ lo') : OwnDisk lo hi w' y := by
  obtain ⟨⟨m, h1, h2, h3, h4⟩, ht⟩ := h
  exact ⟨⟨m, h1, h2, h3.win hw (by omega), h4.win hw (by omega)⟩, Nat.le_trans ht hw.size⟩
theorem OwnDisk.lo_le {lo hi lo' : Nat} {w : World} {y : DiskR} (h : OwnDisk lo hi w y) (hl : lo' ≤ lo) : OwnDisk lo' hi w y := by
  obtain ⟨⟨m, h1, h2, h3, h4⟩, ht⟩ := h
  exact ⟨⟨m, Nat.le_trans hl h1, h2, h3.lo_le hl, h4⟩, ht⟩
theorem OwnDisk.rd {lo hi : Nat} {w : World} {y : DiskR} (h : OwnDisk lo hi w y) : rdDisk w y := by
  obtain ⟨⟨m, h1, h2, h3, h4⟩, ht⟩ := h
  exact ⟨h3.rd, h4.rd⟩
theorem good_of_rd {w : World} {y : DiskR} (h : rdDisk w y) (g : okDisk y) : goodDisk w y :=
  ⟨g.1, g.2.1, ⟨h.1.1, fun f hf => ⟨(g.2.2.1 f hf).1, h.1.2 f hf, (g.2.2.1 f hf).2⟩⟩, h.2.1, fun o ho => ⟨(g.2.2.2 o ho).1, (g.2.2.2 o ho).2.1, (g.2.2.2 o ho).2.2.1, h.2.2 o ho, (g.2.2.2 o ho).2.2.2⟩⟩
theorem OwnDisk.good {lo hi : Nat} {w : World} {y : DiskR} (h : OwnDisk lo hi w y) (g : okDisk y) : goodDisk w y := good_of_rd h.rd g
theorem goodDisk_ok {w : World} {y : DiskR} (g : goodDisk w y) : okDisk y := ⟨g.1, g.2.1, fun f hf => goodFile_ok (g.2.2.1.2 f hf), fun o ho => goodFsOp_ok (g.2.2.2.2 o ho)⟩
theorem goodDisk_rd {w : World} {y : DiskR} (g : goodDisk w y) : rdDisk w y := ⟨⟨g.2.2.1.1, fun f hf => goodFile_rd (g.2.2.1.2 f hf)⟩, g.2.2.2.1, fun o ho => goodFsOp_rd (g.2.2.2.2 o ho)⟩
theorem okDisk_dat {y y' : DiskR} (g : okDisk y) (h : datDisk y' = datDisk y) : okDisk y' := by
  unfold datDisk at h
  simp only [Prod.mk.injEq] at h
  obtain ⟨h0, h1, h2, h3⟩ := h
  refine ⟨by rw [h0]; exact g.1, by rw [h1]; exact g.2.1, fun f hf => ?_, fun o ho => ?_⟩
  · have : datFile f ∈ datFileS (fR y') := List.mem_map_of_mem hf
    rw [h2] at this
    obtain ⟨f', hf', e⟩ := List.mem_map.1 this
    exact okFile_dat (g.2.2.1 f' hf') e.symm
  · have : datFsOp o ∈ datFsOpS (oR y') := List.mem_map_of_mem ho
    rw [h3] at this
    obtain ⟨o', ho', e⟩ := List.mem_map.1 this
    exact okFsOp_dat (g.2.2.2 o' ho') e.symm
def strDisk (y : DiskR) : Prop := (∀ f ∈ y.files, strFile f) ∧ ∀ o ∈ y.wait, strFsOp o
theorem okDisk_str {y : DiskR} (g : okDisk y) : strDisk y := ⟨fun f hf => (g.2.2.1 f hf).1, fun o ho => ⟨(g.2.2.2 o ho).2.1, (g.2.2.2 o ho).2.2.1⟩⟩
theorem goodDisk_str {w : World} {y : DiskR} (g : goodDisk w y) : strDisk y := okDisk_str (goodDisk_ok g)
def bulkDisk (y : DiskR) : Nat := bulkFileS (fR y) + bulkFsOpS (oR y)
set_option maxHeartbeats 1600000 in
theorem szDisk_k (y : DiskR) (left : Int) (w : World) (g : rdDisk w y) (hs : strDisk y) (h1 : 0 ≤ left) (h2 : left ≤ 1048576) :
    Calls Try.prog 20 #[.agg #[.int .i64 y.room, .int .i64 y.fuse, .slice y.filesA y.filesN y.filesC, .slice y.waitA y.waitN y.waitC], .int .i64 left] w fun e w' => e = .returned (.int .i64 (leftB left (bulkDisk y))) ∧ Below w.heap.size w w' := by
  obtain ⟨gf, go⟩ := g
  obtain ⟨hs1, hs2⟩ := hs
  have hb0 := (Below.refl w.heap.size w).alloc (Nat.le_refl _) (.cells #[.int .i64 y.room, .int .i64 y.fuse, .slice y.filesA y.filesN y.filesC, .slice y.waitA y.waitN y.waitC] 43)
  have HF := Lib.hid (rdFileS_below gf hb0 (Nat.le_refl _))
  have HO := Lib.hid (rdFsOpS_below go hb0 (Nat.le_refl _))
  by_cases c1 : left < (bulkFileS (fR y) : Int)
  · have HL1 := Lib.hid (leftB_no (left := left) (n := bulkFileS (fR y)) c1)
    have HL := Lib.hid (leftB_no (left := left) (n := bulkDisk y) (by unfold bulkDisk; omega))
    go_enter Try.func20, Try.ntmps20
    go_wp2_with fail
    refine (szFileS_k (fR y) left _ HF.out hs1 h1 h2).mono ?_
    rintro e w1 ⟨rfl, hb1⟩
    rw [HL1.out]
    go_wp2
    go_ret
    exact ⟨by rw [HL.out] <;> rfl, hb0.trans (hb1.mono hb0.size)⟩
  · have HL1 := Lib.hid (leftB_yes (left := left) (n := bulkFileS (fR y)) (by omega))
    have hd1 : ¬ left - (bulkFileS (fR y) : Int) < 0 := by omega
    have hl1 : 0 ≤ left - (bulkFileS (fR y) : Int) := by omega
    have hl2 : left - (bulkFileS (fR y) : Int) ≤ 1048576 := by omega
    by_cases c2 : left - (bulkFileS (fR y) : Int) < (bulkFsOpS (oR y) : Int)
    · have HL2 := Lib.hid (leftB_no (left := left - (bulkFileS (fR y) : Int)) (n := bulkFsOpS (oR y)) c2)
      have HL := Lib.hid (leftB_no (left := left) (n := bulkDisk y) (by unfold bulkDisk; omega))
      go_enter Try.func20, Try.ntmps20
      go_wp2_with fail
      refine (szFileS_k (fR y) left _ HF.out hs1 h1 h2).mono ?_
      rintro e w1 ⟨rfl, hb1⟩
      rw [HL1.out]
      obtain ⟨hc, _⟩ := bcell hb1
      have c3 : w1.cell? ⟨w.heap.size, 3, none⟩ = some (.slice y.waitA y.waitN y.waitC) := by rw [hc _ _ (by simp)]; simp [go_sem]
      clear hc
      go_wp2_with fail
      refine (szFsOpS_k (oR y) _ _ (rdFsOpS_below HO.out hb1 (Nat.le_refl _)) hs2 hl1 hl2).mono ?_
      rintro e w2 ⟨rfl, hb2⟩
      rw [HL2.out]
      have BB := hb0.trans ((hb1.trans (hb2.mono hb1.size)).mono hb0.size)
      go_wp2
      go_ret
      exact ⟨by rw [HL.out] <;> rfl, BB⟩
    · have HL2 := Lib.hid (leftB_yes (left := left - (bulkFileS (fR y) : Int)) (n := bulkFsOpS (oR y)) (by omega))
      have HL : Hid (leftB left (bulkDisk y) = left - (bulkFileS (fR y) : Int) - (bulkFsOpS (oR y) : Int)) := Lib.hid (by rw [leftB_yes (by unfold bulkDisk; omega)]; unfold bulkDisk; omega)
      have hd2 : ¬ left - (bulkFileS (fR y) : Int) - (bulkFsOpS (oR y) : Int) < 0 := by omega
      go_enter Try.func20, Try.ntmps20
      go_wp2_with fail
      refine (szFileS_k (fR y) left _ HF.out hs1 h1 h2).mono ?_
      rintro e w1 ⟨rfl, hb1⟩
      rw [HL1.out]
      obtain ⟨hc, _⟩ := bcell hb1
      have c3 : w1.cell? ⟨w.heap.size, 3, none⟩ = some (.slice y.waitA y.waitN y.waitC) := by rw [hc _ _ (by simp)]; simp [go_sem]
      clear hc
      go_wp2_with fail
      refine (szFsOpS_k (oR y) _ _ (rdFsOpS_below HO.out hb1 (Nat.le_refl _)) hs2 hl1 hl2).mono ?_
      rintro e w2 ⟨rfl, hb2⟩
      rw [HL2.out]
      have BB := hb0.trans ((hb1.trans (hb2.mono hb1.size)).mono hb0.size)
      go_wp2
      go_ret
      exact ⟨by rw [HL.out] <;> rfl, BB⟩
def RetDisk (F : DskD) (b : Nat) (w : World) (en : Ending) (w' : World) : Prop := ∃ y : DiskR, en = .returned (.agg #[.int .i64 y.room, .int .i64 y.fuse, .slice y.filesA y.filesN y.filesC, .slice y.waitA y.waitN y.waitC]) ∧ datDisk y = F ∧ OwnDisk w.heap.size w'.heap.size w' y ∧ bulkDisk y = b ∧ Below w.heap.size w w'
set_option maxHeartbeats 3200000 in
theorem toDisk_r (y : DiskR) (w : World) (g : rdDisk w y) (hn : bulkDisk y ≤ 1048576) :
    Calls Try.prog 22 #[.agg #[.int .i64 y.room, .int .i64 y.fuse, .slice y.filesA y.filesN y.filesC, .slice y.waitA y.waitN y.waitC]] w fun e w' => RetDisk (datDisk y) (bulkDisk y) w e w' := by
  obtain ⟨gf, go⟩ := g
  have hn1 : bulkFileS (fR y) ≤ 1048576 := by unfold bulkDisk at hn; omega
  have hn2 : bulkFsOpS (oR y) ≤ 1048576 := by unfold bulkDisk at hn; omega
  have hb0 := (((Below.refl w.heap.size w).alloc (Nat.le_refl _) (.cells #[.int .i64 y.room, .int .i64 y.fuse, .slice y.filesA y.filesN y.filesC, .slice y.waitA y.waitN y.waitC] 43)).alloc (by simp) (.cells #[.int .i64 0, .int .i64 0, .slice none 0 0, .slice none 0 0] 34)).alloc (by simp; omega) (.cells #[.int .i64 y.room, .int .i64 y.fuse, .slice none 0 0, .slice none 0 0] 34)
  have HF := Lib.hid (rdFileS_below gf hb0 (Nat.le_refl _))
  have HO := Lib.hid (rdFsOpS_below go hb0 (Nat.le_refl _))
  go_enter Try.func22, Try.ntmps22
  go_wp2_with fail
  refine (toFileS_k (fR y) _ HF.out hn1).mono ?_
  rintro e w1 ⟨f, rfl, hdf, of, kf, hb1⟩
  obtain ⟨hc, hf⟩ := bcell hb1
  have hz1 : w.heap.size + 3 ≤ w1.heap.size := by have := hb1.size; simp at this; omega
  have BB1 := hb0.trans (hb1.mono hb0.size)
  have hw1 := Win.set (lo := w.heap.size + 1) (hi := w.heap.size + 3) w1 (w.heap.size + 1 + 1) 2 (.slice f.a f.n f.c) (by omega) (by omega)
  have BB2 := BB1.trans (hw1.below (by omega) BB1.size)
  have x0 : w1.cell? ⟨w.heap.size + 1 + 1, 0, none⟩ = some (.int .i64 y.room) := by rw [hc _ _ (by simp)]; simp [go_sem]
  have x1 : w1.cell? ⟨w.heap.size + 1 + 1, 1, none⟩ = some (.int .i64 y.fuse) := by rw [hc _ _ (by simp)]; simp [go_sem]
  have x2 : w1.cell? ⟨w.heap.size + 1 + 1, 2, none⟩ = some (.slice none 0 0) := by rw [hc _ _ (by simp)]; simp [go_sem]
  have x3 : w1.cell? ⟨w.heap.size + 1 + 1, 3, none⟩ = some (.slice none 0 0) := by rw [hc _ _ (by simp)]; simp [go_sem]
  have r0 : w1.cell? ⟨w.heap.size + 1, 0, none⟩ = some (.int .i64 0) := by rw [hc _ _ (by simp)]; simp [go_sem]
  have r1 : w1.cell? ⟨w.heap.size + 1, 1, none⟩ = some (.int .i64 0) := by rw [hc _ _ (by simp)]; simp [go_sem]
  have r2 : w1.cell? ⟨w.heap.size + 1, 2, none⟩ = some (.slice none 0 0) := by rw [hc _ _ (by simp)]; simp [go_sem]
  have r3 : w1.cell? ⟨w.heap.size + 1, 3, none⟩ = some (.slice none 0 0) := by rw [hc _ _ (by simp)]; simp [go_sem]
  have a3 : w1.cell? ⟨w.heap.size, 3, none⟩ = some (.slice y.waitA y.waitN y.waitC) := by rw [hc _ _ (by simp; omega)]; simp [go_sem]
  have fr : ∀ b o, b < w.heap.size + 3 → w.heap.size ≤ b → o < 4 → w1.frozen? ⟨b, o, none⟩ = false := by
    intro b o hb hb2 ho
    rw [hf _ _ (by simp; omega)]
    have h4 : b = w.heap.size ∨ b = w.heap.size + 1 ∨ b = w.heap.size + 1 + 1 := by omega
    have h5 : o = 0 ∨ o = 1 ∨ o = 2 ∨ o = 3 := by omega
    rcases h4 with rfl | rfl | rfl <;> rcases h5 with rfl | rfl | rfl | rfl <;> simp [go_sem]
  have f2 := fr (w.heap.size + 1 + 1) 2 (by omega) (by omega) (by omega)
  have f3 := fr (w.heap.size + 1 + 1) 3 (by omega) (by omega) (by omega)
  have q0 := fr (w.heap.size + 1) 0 (by omega) (by omega) (by omega)
  have q1 := fr (w.heap.size + 1) 1 (by omega) (by omega) (by omega)
  have q2 := fr (w.heap.size + 1) 2 (by omega) (by omega) (by omega)
  have q3 := fr (w.heap.size + 1) 3 (by omega) (by omega) (by omega)
  clear hc hf fr
  go_wp2_with fail
  refine (toFsOpS_k (oR y) _ (rdFsOpS_below go BB2 (Nat.le_refl _)) hn2).mono ?_
  rintro e w2 ⟨o, rfl, hdo, oo, ko, hb2⟩
  obtain ⟨hc2, hf2⟩ := bcell hb2
  have hz2 : w1.heap.size ≤ w2.heap.size := by have := hb2.size; simpa using this
  have BB3 := BB2.trans (hb2.mono (by rw [size_set]; omega))
  have y0 : w2.cell? ⟨w.heap.size + 1 + 1, 0, none⟩ = some (.int .i64 y.room) := by rw [hc2 _ _ (by rw [size_set]; omega), World.cell?_setCell_other _ _ _ _ (by simp)]; exact x0
  have y1 : w2.cell? ⟨w.heap.size + 1 + 1, 1, none⟩ = some (.int .i64 y.fuse) := by rw [hc2 _ _ (by rw [size_set]; omega), World.cell?_setCell_other _ _ _ _ (by simp)]; exact x1
  have y2 : w2.cell? ⟨w.heap.size + 1 + 1, 2, none⟩ = some (.slice f.a f.n f.c) := by rw [hc2 _ _ (by rw [size_set]; omega)]; exact World.cell?_setCell_same _ _ _ x2
  have y3 : w2.cell? ⟨w.heap.size + 1 + 1, 3, none⟩ = some (.slice none 0 0) := by rw [hc2 _ _ (by rw [size_set]; omega), World.cell?_setCell_other _ _ _ _ (by simp)]; exact x3
  have s0 : w2.cell? ⟨w.heap.size + 1, 0, none⟩ = some (.int .i64 0) := by rw [hc2 _ _ (by rw [size_set]; omega), World.cell?_setCell_other _ _ _ _ (by simp)]; exact r0
  have s1 : w2.cell? ⟨w.heap.size + 1, 1, none⟩ = some (.int .i64 0) := by rw [hc2 _ _ (by rw [size_set]; omega), World.cell?_setCell_other _ _ _ _ (by simp)]; exact r1
  have s2 : w2.cell? ⟨w.heap.size + 1, 2, none⟩ = some (.slice none 0 0) := by rw [hc2 _ _ (by rw [size_set]; omega), World.cell?_setCell_other _ _ _ _ (by simp)]; exact r2
  have s3 : w2.cell? ⟨w.heap.size + 1, 3, none⟩ = some (.slice none 0 0) := by rw [hc2 _ _ (by rw [size_set]; omega), World.cell?_setCell_other _ _ _ _ (by simp)]; exact r3
  have f3' : w2.frozen? ⟨w.heap.size + 1 + 1, 3, none⟩ = false := by rw [hf2 _ _ (by rw [size_set]; omega), World.frozen?_setCell]; exact f3
  have q0' : w2.frozen? ⟨w.heap.size + 1, 0, none⟩ = false := by rw [hf2 _ _ (by rw [size_set]; omega), World.frozen?_setCell]; exact q0
  have q1' : w2.frozen? ⟨w.heap.size + 1, 1, none⟩ = false := by rw [hf2 _ _ (by rw [size_set]; omega), World.frozen?_setCell]; exact q1
  have q2' : w2.frozen? ⟨w.heap.size + 1, 2, none⟩ = false := by rw [hf2 _ _ (by rw [size_set]; omega), World.frozen?_setCell]; exact q2
  have q3' : w2.frozen? ⟨w.heap.size + 1, 3, none⟩ = false := by rw [hf2 _ _ (by rw [size_set]; omega), World.frozen?_setCell]; exact q3
  clear hc2 hf2
  go_wp2
  refine bodyPost_ret (v := .agg #[.int .i64 y.room, .int .i64 y.fuse, .slice f.a f.n f.c, .slice o.a o.n o.c]) (by simp [results, Try.results22, go_sem, s0, s1, s2, s3]) rfl ?_
  have hw2 := (Win.set (lo := w.heap.size + 1) (hi := w.heap.size + 3) w2 (w.heap.size + 1 + 1) 3 (.slice o.a o.n o.c) (by omega) (by omega)).trans ((((Win.set _ (w.heap.size + 1) 0 (.int .i64 y.room) (by omega) (by omega)).trans (Win.set _ (w.heap.size + 1) 1 (.int .i64 y.fuse) (by omega) (by omega))).trans (Win.set _ (w.heap.size + 1) 2 (.slice f.a f.n f.c) (by omega) (by omega))).trans (Win.set _ (w.heap.size + 1) 3 (.slice o.a o.n o.c) (by omega) (by omega)))
  have of2 := ((of.lo_le (lo' := w.heap.size + 3) (by simp)).win hw1 (Or.inl (Nat.le_refl _))).below hb2
  have of3 := of2.win hw2 (Or.inl (Nat.le_refl _))
  have oo2 := (oo.lo_le (lo' := w1.heap.size) (by rw [size_set]; exact Nat.le_refl _)).win hw2 (Or.inl hz1)
  refine ⟨⟨y.room, y.fuse, f.a, f.n, f.c, f.l, o.a, o.n, o.c, o.l⟩, rfl, ?_, ⟨⟨w1.heap.size, by omega, by simp only [size_set]; exact hz2, of3.lo_le (by omega), by simp only [size_set]; exact oo2⟩, Nat.le_refl _⟩, ?_, BB3.trans (hw2.below (by omega) BB3.size)⟩
  · unfold datDisk; rw [← hdf, ← hdo]; rfl
  · unfold bulkDisk; rw [← kf, ← ko]; rfl
theorem toDisk_k (y : DiskR) (w : World) (g : rdDisk w y) (hn : bulkDisk y ≤ 1048576) :
    Calls Try.prog 22 #[.agg #[.int .i64 y.room, .int .i64 y.fuse, .slice y.filesA y.filesN y.filesC, .slice y.waitA y.waitN y.waitC]] w fun e w' => ∃ y' : DiskR, e = .returned (.agg #[.int .i64 y'.room, .int .i64 y'.fuse, .slice y'.filesA y'.filesN y'.filesC, .slice y'.waitA y'.waitN y'.waitC]) ∧ datDisk y' = datDisk y ∧ OwnDisk w.heap.size w'.heap.size w' y' ∧ bulkDisk y' = bulkDisk y ∧ Below w.heap.size w w' := toDisk_r y w g hn
end Go.Proofs.Ytoodlmhnemamhaa

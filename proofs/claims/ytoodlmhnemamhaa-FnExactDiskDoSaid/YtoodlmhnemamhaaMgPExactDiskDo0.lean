import Derived.Test.YtoodlmhnemamhaaCopyF
import Derived.Test.YtoodlmhnemamhaaDiskF
import Derived.Deep.RegionLaw
import Derived.Test.YtoodlmhnemamhaaDiskRd
import Derived.Test.YtoodlmhnemamhaaFsOpOk
import Derived.Test.YtoodlmhnemamhaaFsOpU
import Derived.Deep.CutRange
import Derived.Test.YtoodlmhnemamhaaDiskMK
import Derived.Test.YtoodlmhnemamhaaDiskE
import Derived.Test.YtoodlmhnemamhaaFsOpMK
import Derived.Test.YtoodlmhnemamhaaFsOpK
import Derived.Test.YtoodlmhnemamhaaKeep
import Derived.Test.YtoodlmhnemamhaaRow
import Derived.Test.YtoodlmhnemamhaaRoot
import Derived.Test.YtoodlmhnemamhaaOpen
import Derived.Test.YtoodlmhnemamhaaTyDisk
import Derived.Test.YtoodlmhnemamhaaTyFsOp
/- Copies of rows of operations: what a row that grows by a copy owns; copyOp of the program. -/
namespace Go.Proofs.Ytoodlmhnemamhaa
open Go.RowKit
theorem OwnFsOpS.grow {lo hi : Nat} {w : World} {y : Row FsOpR} (h : OwnFsOpS lo hi w y) {hi' : Nat} (hl : hi ≤ hi') (ht : hi' ≤ w.heap.size) : OwnFsOpS lo hi' w y := ⟨h.nest.grow hl ht⟩
theorem OwnFsOpS.nil (lo : Nat) (w : World) : OwnFsOpS lo w.heap.size w ⟨none, 0, 0, []⟩ := ⟨OwnN.nil _ _ _ _ _ _ _ _ _⟩
theorem OwnFileS.nil (lo : Nat) (w : World) : OwnFileS lo w.heap.size w ⟨none, 0, 0, []⟩ := ⟨OwnN.nil _ _ _ _ _ _ _ _ _⟩
theorem OwnFsOpS.lit (w : World) (lo : Nat) (hlo : lo ≤ w.heap.size) : OwnFsOpS lo (w.heap.size + 1) (w.alloc (.cells #[] 27)) ⟨some ⟨w.heap.size, 0, none⟩, 0, 0, []⟩ :=
  ⟨⟨⟨rfl, World.ownsRow_lit w #[] 0 hlo (by unfold maxLen; omega) (by simp), fun g hg => by cases hg; exact Nat.lt_succ_self _, by simp, Nat.zero_le _⟩, fun i hi => absurd hi (by simp), fun i hi => absurd hi (by simp), fun i i' hi => absurd hi (by simp)⟩⟩
theorem OwnFsOpS.snoc {lo H B : Nat} {W0 w2 : World} {y : Row FsOpR} (h : OwnFsOpS lo H W0 y) (hHB : H ≤ B) (hlB : lo ≤ B) (x : FsOpR) (g2 C2 : Nat)
    (hin : OwnS (encI .u8) 1 5 B W0.heap.size W0 x.dataA x.dataN x.dataC x.data)
    (ho2 : w2.ownsRow lo 27 4 (.slice (some ⟨g2, 0, none⟩) (y.n + 1) C2) (y.n + 1) (y.l.flatMap encFsOp ++ encFsOp x)) (hg2 : W0.grownBy w2 (Value.slice y.a y.n y.c).ownBlock)
    (hnew : (Value.slice y.a y.n y.c).ownBlock = some g2 ∨ g2 = W0.heap.size) (hsm : y.n < 100000000) : OwnFsOpS lo w2.heap.size w2 ⟨some ⟨g2, 0, none⟩, y.n + 1, C2, y.l ++ [x]⟩ := by
  have hyl := h.nest.row.len
  have htop := h.nest.row.top
  have hg := h.grow htop (Nat.le_refl _)
  refine ⟨hg.nest.snoc x (some ⟨g2, 0, none⟩) C2 (OwnS.of (by rw [List.flatMap_append]; simpa using ho2) (by simp; omega) (show y.n + 1 ≤ _ by omega)) (hin.lo_le hlB) hg2 ?_ ?_ ?_ hg2.size (Nat.le_refl _)⟩
  · rcases hnew with e | e
    · exact Or.inl (by rw [show blkR y = _ from e]; rfl)
    · refine Or.inr (fun q hq => ?_)
      have e2 : g2 = q := by simpa [Value.ownBlock] using hq
      omega
  · intro q hq e
    have h1 := (World.ownsRow.lt hin.own q hq).1
    have h2 := h.nest.row.lt q e
    omega
  · intro i hi0 q hq e
    have h1 := (World.ownsRow.lt hin.own q e).1
    have h2 := (h.nest.inner i hi0).lt q hq
    omega
theorem one_fsOp (x : FsOpR) : ∀ u ∈ encFsOp x, u.oneCell' = true := by
  intro u hu
  simp only [encFsOp, List.mem_cons, List.not_mem_nil, or_false] at hu
  rcases hu with rfl | rfl | rfl | rfl <;> rfl
theorem news_four (w : World) (x y z v : Value) (t : TypeId) : ∀ (j : Nat) (u : Value), [x, y, z, v][j]? = some u → (w.alloc (.cells #[x, y, z, v] t)).cell? ((⟨w.heap.size, 0, none⟩ : Addr).add j) = some u := by
  intro j u hu
  match j, hu with
  | 0, hu => simp at hu; subst hu; simp [go_sem]
  | 1, hu => simp at hu; subst hu; simp [go_sem]
  | 2, hu => simp at hu; subst hu; simp [go_sem]
  | 3, hu => simp at hu; subst hu; simp [go_sem]
  | j + 4, hu => simp at hu
/-- An operation with a row of data of the call's own. -/
def RetOpO (O : OD) (n : Nat) (w : World) (en : Ending) (w' : World) : Prop := ∃ x : FsOpR, en = .returned (.agg #[.int .i64 x.kind, .string x.name, .string x.dst, .slice x.dataA x.dataN x.dataC]) ∧ datFsOp x = O ∧ x.dataN = n ∧ OwnS (encI .u8) 1 5 w.heap.size w'.heap.size w' x.dataA x.dataN x.dataC x.data ∧ Below w.heap.size w w'
set_option maxHeartbeats 1600000 in
theorem copyOp_any (x : FsOpR) (w : World) (h : Rd (encI .u8) 1 w x.dataA x.dataN x.dataC x.data) (hn : x.dataN ≤ 100000000) :
    Calls Try.prog 60 #[.agg #[.int .i64 x.kind, .string x.name, .string x.dst, .slice x.dataA x.dataN x.dataC]] w fun e w' => RetOpO (datFsOp x) x.dataN w e w' := by
  obtain ⟨ok, onm, odst, oA, oN, oC, oL⟩ := x
  simp only at h hn ⊢
  have hb0 := ((Below.refl w.heap.size w).alloc (Nat.le_refl _) (.cells #[.int .i64 ok, .string onm, .string odst, .slice oA oN oC] 27)).alloc (by simp) (.cells #[.int .i64 0, .string ⟨#[]⟩, .string ⟨#[]⟩, .slice none 0 0] 27)
  have HR := Lib.hid (h.below hb0 (Nat.le_refl _))
  clear h
  go_enter Try.func60, Try.ntmps60
  go_wp2_with fail
  refine (copyBytes_any oA oN oC oL _ HR.out hn).mono ?_
  rintro e w1 ⟨A1, N1, C1, rfl, ho, hb1⟩
  obtain ⟨hc, hf⟩ := bcell hb1
  have hz1 : w.heap.size + 2 ≤ w1.heap.size := by have := hb1.size; simp at this; omega
  have x0 : w1.cell? ⟨w.heap.size, 0, none⟩ = some (.int .i64 ok) := by rw [hc _ _ (by simp; omega)]; simp [go_sem]
  have x1 : w1.cell? ⟨w.heap.size, 1, none⟩ = some (.string onm) := by rw [hc _ _ (by simp; omega)]; simp [go_sem]
  have x2 : w1.cell? ⟨w.heap.size, 2, none⟩ = some (.string odst) := by rw [hc _ _ (by simp; omega)]; simp [go_sem]
  have x3 : w1.cell? ⟨w.heap.size, 3, none⟩ = some (.slice oA oN oC) := by rw [hc _ _ (by simp; omega)]; simp [go_sem]
  have r0 : w1.cell? ⟨w.heap.size + 1, 0, none⟩ = some (.int .i64 0) := by rw [hc _ _ (by simp)]; simp [go_sem]
  have r1 : w1.cell? ⟨w.heap.size + 1, 1, none⟩ = some (.string ⟨#[]⟩) := by rw [hc _ _ (by simp)]; simp [go_sem]
  have r2 : w1.cell? ⟨w.heap.size + 1, 2, none⟩ = some (.string ⟨#[]⟩) := by rw [hc _ _ (by simp)]; simp [go_sem]
  have r3 : w1.cell? ⟨w.heap.size + 1, 3, none⟩ = some (.slice none 0 0) := by rw [hc _ _ (by simp)]; simp [go_sem]
  have f3 : w1.frozen? ⟨w.heap.size, 3, none⟩ = false := by rw [hf _ _ (by simp; omega)]; simp [go_sem]
  have q0 : w1.frozen? ⟨w.heap.size + 1, 0, none⟩ = false := by rw [hf _ _ (by simp)]; simp [go_sem]
  have q1 : w1.frozen? ⟨w.heap.size + 1, 1, none⟩ = false := by rw [hf _ _ (by simp)]; simp [go_sem]
  have q2 : w1.frozen? ⟨w.heap.size + 1, 2, none⟩ = false := by rw [hf _ _ (by simp)]; simp [go_sem]
  have q3 : w1.frozen? ⟨w.heap.size + 1, 3, none⟩ = false := by rw [hf _ _ (by simp)]; simp [go_sem]
  have BB1 := hb0.trans (hb1.mono hb0.size)
  clear hc hf
  go_wp2
  refine bodyPost_ret (v := .agg #[.int .i64 ok, .string onm, .string odst, .slice A1 N1 C1]) (by simp [results, Try.results60, go_sem, r0, r1, r2, r3]) rfl ?_
  have hw2 := (Win.set (lo := w.heap.size) (hi := w.heap.size + 2) w1 w.heap.size 3 (.slice A1 N1 C1) (by omega) (by omega)).trans ((((Win.set _ (w.heap.size + 1) 0 (.int .i64 ok) (by omega) (by omega)).trans (Win.set _ (w.heap.size + 1) 1 (.string onm) (by omega) (by omega))).trans (Win.set _ (w.heap.size + 1) 2 (.string odst) (by omega) (by omega))).trans (Win.set _ (w.heap.size + 1) 3 (.slice A1 N1 C1) (by omega) (by omega)))
  have ho2 := (ho.toS.lo_le (lo' := w.heap.size + 2) (by simp)).win hw2 (Or.inl (Nat.le_refl _))
  have hnn : N1 = oN := by have e1 := ho.toS.len; have e2 := HR.out.len; omega
  exact ⟨⟨ok, onm, odst, A1, N1, C1, oL⟩, rfl, rfl, hnn, (ho2.lo_le (by omega)).grow (by simp only [size_set]; exact Nat.le_refl _) (Nat.le_refl _), BB1.trans (hw2.below (Nat.le_refl _) BB1.size)⟩
end Go.Proofs.Ytoodlmhnemamhaa

/- l02Copy of the reference. -/
namespace Go.Proofs.Ytoodlmhnemamhaa
open Go.RowKit
/-- A disk of a call's own. -/
def RetDO (D : DskD) (w : World) (en : Ending) (w' : World) : Prop := ∃ y : DiskR, en = .returned (.agg #[.int .i64 y.room, .int .i64 y.fuse, .slice y.filesA y.filesN y.filesC, .slice y.waitA y.waitN y.waitC]) ∧ datDisk y = D ∧ OwnDisk w.heap.size w'.heap.size w' y ∧ Below w.heap.size w w'
set_option maxRecDepth 100000 in
set_option maxHeartbeats 6400000 in
theorem l02Copy_any (y : DiskR) (w : World) (g : rdDisk w y) (hn : bulkDisk y ≤ 1048576) (n12 : y.filesN ≤ 10000000) (n60 : y.waitN ≤ 10000000) :
    Calls Try.prog 57 #[.agg #[.int .i64 y.room, .int .i64 y.fuse, .slice y.filesA y.filesN y.filesC, .slice y.waitA y.waitN y.waitC]] w fun e w' => RetDO (datDisk y) w e w' := by
  obtain ⟨room, fuse, fA, fN, fC, fs, oA, oN, oC, os⟩ := y
  obtain ⟨gf, go, goi⟩ := g
  unfold bulkDisk at hn
  simp only [fR, oR] at gf go goi hn n12 n60 ⊢
  have HSB : Hid (sizeF (datFileS ⟨fA, fN, fC, fs⟩) ≤ 10000000) := Lib.hid (by have := size_bulk (w := w) (y := ⟨fA, fN, fC, fs⟩) gf; omega)
  have HOL : Hid (os.length = oN) := Lib.hid go.len
  have HDN : Hid (∀ k, k < os.length → (atFsOp os k).dataN ≤ 1048576) := Lib.hid (fun k hk => by
    have h1 := preFsOp_top os k hk
    have h2 : bulkFsOpS ⟨oA, oN, oC, os⟩ = oN + preFsOp os os.length := rfl
    have h3 : (atFsOp os k).dataN ≤ bulkFsOp (atFsOp os k) := by unfold bulkFsOp; omega
    omega)
  have om := go.max
  have ol := go.le
  unfold maxLen at om
  have hb0 := ((Below.refl w.heap.size w).alloc (Nat.le_refl _) (.cells #[.int .i64 room, .int .i64 fuse, .slice fA fN fC, .slice oA oN oC] 34)).alloc (by simp) (.cells #[.int .i64 0, .int .i64 0, .slice none 0 0, .slice none 0 0] 34)
  have HGO : Hid (∀ x ∈ os, rdFsOp w x) := Lib.hid goi
  have HF0 := Lib.hid (rdFileS_below gf hb0 (Nat.le_refl _))
  obtain ⟨i0, hi, hz0, hz1, hz2⟩ := info_parts infoFsOp
  obtain ⟨i1, ji, jz0, jz1, jz2⟩ := info_parts infoByte
  have HDT : Hid (datDisk ⟨room, fuse, fA, fN, fC, fs, oA, oN, oC, os⟩ = (room, fuse, datFileS ⟨fA, fN, fC, fs⟩, (os.take oN).map datFsOp)) := Lib.hid (by rw [← HOL.out, List.take_length]; rfl)
  rw [HDT.out]
  clear gf goi hn HDT
  go_enter Try.func57, Try.ntmps57
  go_wp2_with fail
  refine (l02Files_any ⟨fA, fN, fC, fs⟩ _ HF0.out n12 HSB.out).mono ?_
  rintro e w1 ⟨f, rfl, hdf, of, hb1⟩
  obtain ⟨hc, hf⟩ := bcell hb1
  have hs1 : w.heap.size + 2 ≤ w1.heap.size := by have := hb1.size; simp at this; omega
  have BB1 := hb0.trans (hb1.mono hb0.size)
  have x0 : w1.cell? ⟨w.heap.size, 0, none⟩ = some (.int .i64 room) := by rw [hc _ _ (by simp; omega)]; simp [go_sem]
  have x1 : w1.cell? ⟨w.heap.size, 1, none⟩ = some (.int .i64 fuse) := by rw [hc _ _ (by simp; omega)]; simp [go_sem]
  have x2 : w1.cell? ⟨w.heap.size, 2, none⟩ = some (.slice fA fN fC) := by rw [hc _ _ (by simp; omega)]; simp [go_sem]
  have x3 : w1.cell? ⟨w.heap.size, 3, none⟩ = some (.slice oA oN oC) := by rw [hc _ _ (by simp; omega)]; simp [go_sem]
  have r0 : w1.cell? ⟨w.heap.size + 1, 0, none⟩ = some (.int .i64 0) := by rw [hc _ _ (by simp)]; simp [go_sem]
  have r1 : w1.cell? ⟨w.heap.size + 1, 1, none⟩ = some (.int .i64 0) := by rw [hc _ _ (by simp)]; simp [go_sem]
  have r2 : w1.cell? ⟨w.heap.size + 1, 2, none⟩ = some (.slice none 0 0) := by rw [hc _ _ (by simp)]; simp [go_sem]
  have r3 : w1.cell? ⟨w.heap.size + 1, 3, none⟩ = some (.slice none 0 0) := by rw [hc _ _ (by simp)]; simp [go_sem]
  have f2 : w1.frozen? ⟨w.heap.size, 2, none⟩ = false := by rw [hf _ _ (by simp; omega)]; simp [go_sem]
  have f3 : w1.frozen? ⟨w.heap.size, 3, none⟩ = false := by rw [hf _ _ (by simp; omega)]; simp [go_sem]
  have q0 : w1.frozen? ⟨w.heap.size + 1, 0, none⟩ = false := by rw [hf _ _ (by simp)]; simp [go_sem]
  have q1 : w1.frozen? ⟨w.heap.size + 1, 1, none⟩ = false := by rw [hf _ _ (by simp)]; simp [go_sem]
  have q2 : w1.frozen? ⟨w.heap.size + 1, 2, none⟩ = false := by rw [hf _ _ (by simp)]; simp [go_sem]
  have q3 : w1.frozen? ⟨w.heap.size + 1, 3, none⟩ = false := by rw [hf _ _ (by simp)]; simp [go_sem]
  clear hc hf
  have hw1 := Win.set (lo := w.heap.size) (hi := w.heap.size + 2) w1 w.heap.size 2 (.slice f.a f.n f.c) (by omega) (by omega)
  have BW1 := BB1.trans (hw1.below (Nat.le_refl _) BB1.size)
  have HOF := Lib.hid (((of.lo_le (lo' := w.heap.size + 2) (by simp)).win hw1 (Or.inl (Nat.le_refl _))))
  have HDF := Lib.hid hdf
  have y0 : (w1.setCell ⟨w.heap.size, 2, none⟩ (.slice f.a f.n f.c)).cell? ⟨w.heap.size, 0, none⟩ = some (.int .i64 room) := by rw [World.cell?_setCell_other _ _ _ _ (by simp)]; exact x0
  have y1 : (w1.setCell ⟨w.heap.size, 2, none⟩ (.slice f.a f.n f.c)).cell? ⟨w.heap.size, 1, none⟩ = some (.int .i64 fuse) := by rw [World.cell?_setCell_other _ _ _ _ (by simp)]; exact x1
  have y2 : (w1.setCell ⟨w.heap.size, 2, none⟩ (.slice f.a f.n f.c)).cell? ⟨w.heap.size, 2, none⟩ = some (.slice f.a f.n f.c) := World.cell?_setCell_same _ _ _ x2
  have y3 : (w1.setCell ⟨w.heap.size, 2, none⟩ (.slice f.a f.n f.c)).cell? ⟨w.heap.size, 3, none⟩ = some (.slice oA oN oC) := by rw [World.cell?_setCell_other _ _ _ _ (by simp)]; exact x3
  have z0 : (w1.setCell ⟨w.heap.size, 2, none⟩ (.slice f.a f.n f.c)).cell? ⟨w.heap.size + 1, 0, none⟩ = some (.int .i64 0) := by rw [World.cell?_setCell_other _ _ _ _ (by simp)]; exact r0
  have z1 : (w1.setCell ⟨w.heap.size, 2, none⟩ (.slice f.a f.n f.c)).cell? ⟨w.heap.size + 1, 1, none⟩ = some (.int .i64 0) := by rw [World.cell?_setCell_other _ _ _ _ (by simp)]; exact r1
  have z2 : (w1.setCell ⟨w.heap.size, 2, none⟩ (.slice f.a f.n f.c)).cell? ⟨w.heap.size + 1, 2, none⟩ = some (.slice none 0 0) := by rw [World.cell?_setCell_other _ _ _ _ (by simp)]; exact r2
  have z3 : (w1.setCell ⟨w.heap.size, 2, none⟩ (.slice f.a f.n f.c)).cell? ⟨w.heap.size + 1, 3, none⟩ = some (.slice none 0 0) := by rw [World.cell?_setCell_other _ _ _ _ (by simp)]; exact r3
  have sf3 : (w1.setCell ⟨w.heap.size, 2, none⟩ (.slice f.a f.n f.c)).frozen? ⟨w.heap.size, 3, none⟩ = false := by rw [World.frozen?_setCell]; exact f3
  have sq0 : (w1.setCell ⟨w.heap.size, 2, none⟩ (.slice f.a f.n f.c)).frozen? ⟨w.heap.size + 1, 0, none⟩ = false := by rw [World.frozen?_setCell]; exact q0
  have sq1 : (w1.setCell ⟨w.heap.size, 2, none⟩ (.slice f.a f.n f.c)).frozen? ⟨w.heap.size + 1, 1, none⟩ = false := by rw [World.frozen?_setCell]; exact q1
  have sq2 : (w1.setCell ⟨w.heap.size, 2, none⟩ (.slice f.a f.n f.c)).frozen? ⟨w.heap.size + 1, 2, none⟩ = false := by rw [World.frozen?_setCell]; exact q2
  have sq3 : (w1.setCell ⟨w.heap.size, 2, none⟩ (.slice f.a f.n f.c)).frozen? ⟨w.heap.size + 1, 3, none⟩ = false := by rw [World.frozen?_setCell]; exact q3
  have hs2 : w.heap.size + 2 ≤ (w1.setCell ⟨w.heap.size, 2, none⟩ (.slice f.a f.n f.c)).heap.size := by rw [size_set]; exact hs1
  have hot : (oN : Int) ≤ (oC : Int) := by omega
  have y3a := cell_later ((Below.refl _ _).alloc (Nat.le_refl _) (.cells #[] 27)) y3
  go_wp2_with fail
  clear x0 x1 x2 x3 r0 r1 r2 r3 f2 f3 q0 q1 q2 q3
  have hsz : (w1.setCell ⟨w.heap.size, 2, none⟩ (.slice f.a f.n f.c)).heap.size = w1.heap.size := size_set _ _ _
  generalize w1.setCell ⟨w.heap.size, 2, none⟩ (.slice f.a f.n f.c) = W1 at *
  go_loopw [3, 14] (fun o i wr => ∃ (k : Nat) (q : Row FsOpR), k ≤ oN ∧ o = .slice q.a q.n q.c ∧ i = .int .i64 k ∧ q.n = k ∧ Hid (OwnFsOpS W1.heap.size wr.heap.size wr q) ∧ Hid (datFsOpS q = (os.take k).map datFsOp) ∧ Below W1.heap.size W1 wr) (fun _ i _ => oN - (intOf i).toNat)
  case atStart => exact ⟨0, ⟨some ⟨w1.heap.size, 0, none⟩, 0, 0, []⟩, Nat.zero_le _, rfl, rfl, rfl, Lib.hid (by rw [← hsz]; exact (OwnFsOpS.lit W1 _ (Nat.le_refl _)).grow (by simp) (Nat.le_refl _)), Lib.hid rfl, (Below.refl _ _).alloc (Nat.le_refl _) _⟩
  case round =>
    obtain ⟨k, q, hk, rfl, rfl, hqk, HO, HQ, hb⟩ := hrel
    obtain ⟨qA, qN, qC, qs⟩ := q
    simp only at hqk
    subst hqk
    have BBr := BW1.trans (hb.mono BW1.size)
    by_cases hlt : qN < oN
    · obtain ⟨b, off, rfl, hbl, hcc⟩ := go.rowFsOp (by omega)
      obtain ⟨k0, k1, k2, k3⟩ := hcc qN hlt
      have cb : ∀ o, wr.cell? ⟨b, o, none⟩ = w.cell? ⟨b, o, none⟩ := fun o => BBr.cell (p := ⟨b, o, none⟩) hbl
      rw [← cb] at k0 k1 k2 k3
      have hi1 : (qN : Int) < (oN : Int) := by omega
      have hkx : qN < os.length := by rw [HOL.out]; exact hlt
      have hxn : (atFsOp os qN).dataN ≤ 1048576 := HDN.out _ hkx
      have HXR : Hid (rdFsOp wr (atFsOp os qN)) := Lib.hid (by rw [atFsOp_eq os qN hkx]; exact rdFsOp_below (HGO.out _ (List.getElem_mem hkx)) BBr (Nat.le_refl _))
      have HST : Hid ((os.take (qN + 1)).map datFsOp = (os.take qN).map datFsOp ++ [datFsOp (atFsOp os qN)]) := Lib.hid (by rw [List.take_succ_eq_append_getElem hkx, List.map_append, atFsOp_eq os qN hkx]; rfl)
      clear hcc cb hkx
      generalize atFsOp os qN = x at *
      obtain ⟨ok, onm, odst, xA, xN, xC, xL⟩ := x
      try simp only at k0 k1 k2 k3 hxn
      have hal := (Below.refl wr.heap.size wr).alloc (Nat.le_refl _) (.cells #[.int .i64 ok, .string onm, .string odst, .slice xA xN xC] 27)
      have E0 : (wr.alloc (.cells #[.int .i64 ok, .string onm, .string odst, .slice xA xN xC] 27)).cell? ⟨wr.heap.size, 0, none⟩ = some (.int .i64 ok) := by simp [go_sem]
      have E1 : (wr.alloc (.cells #[.int .i64 ok, .string onm, .string odst, .slice xA xN xC] 27)).cell? ⟨wr.heap.size, 1, none⟩ = some (.string onm) := by simp [go_sem]
      have E2 : (wr.alloc (.cells #[.int .i64 ok, .string onm, .string odst, .slice xA xN xC] 27)).cell? ⟨wr.heap.size, 2, none⟩ = some (.string odst) := by simp [go_sem]
      have E3 : (wr.alloc (.cells #[.int .i64 ok, .string onm, .string odst, .slice xA xN xC] 27)).cell? ⟨wr.heap.size, 3, none⟩ = some (.slice xA xN xC) := by simp [go_sem]
      have F3 : (wr.alloc (.cells #[.int .i64 ok, .string onm, .string odst, .slice xA xN xC] 27)).frozen? ⟨wr.heap.size, 3, none⟩ = false := by simp [go_sem]
      have HOW := Lib.hid (HO.out.below hal)
      have HXF := Lib.hid (rdFsOp_below HXR.out hal (Nat.le_refl _))
      have hwF : (wr.alloc (.cells #[.int .i64 ok, .string onm, .string odst, .slice xA xN xC] 27)).heap.size = wr.heap.size + 1 := by simp
      have hbF := hb.trans (hal.mono hb.size)
      have G3 := cell_later ((Below.refl _ _).alloc (Nat.le_refl _) (.cells #[] 5)) E3
      have HLIT : Hid (((wr.alloc (.cells #[.int .i64 ok, .string onm, .string odst, .slice xA xN xC] 27)).alloc (.cells #[] 5)).ownsRow (wr.heap.size + 1) 5 1 (.slice (some ⟨wr.heap.size + 1, 0, none⟩) 0 0) 0 (([] : List Int).map (.int .u8))) := Lib.hid (by rw [← hwF]; exact World.ownsRow_lit _ #[] 0 (Nat.le_refl _) (by unfold maxLen; omega) (by simp))
      have HXT := Lib.hid (Rd.below HXF.out ((Below.refl _ _).alloc (Nat.le_refl _) (.cells #[] 5)) (Nat.le_refl _))
      have hxl : xL.length = xN := HXF.out.len
      have hxm := HXF.out.le
      have hxm2 := HXF.out.max
      unfold maxLen at hxm2
      have hlen0 : ([] ++ xL.map (Value.int .u8)).length = 0 + xN := by simp [hxl]
      go_wp2_with (at_builtin; refine app_any rfl _ _ 22 rfl (wr.heap.size + 1) 5 Try.underlying22 ji jz0 jz1 jz2 rfl (by decide) (some ⟨wr.heap.size + 1, 0, none⟩) 0 0 [] rfl HLIT.out xA xN xC (xL.map (.int .u8)) rfl ?c1 HXT.out.news HXT.out.none (int_bytes xL) ?c2 ?c3 (by simp) ?_)
      case c2 => unfold maxLen; omega
      case c3 => omega
      intro A4 C4 w4 ho2 hb4
      have ho3 : w4.ownsRow (wr.heap.size + 1) 5 1 (.slice A4 xN C4) xN (xL.map (.int .u8)) := by simpa using ho2
      obtain ⟨hc4, hf4⟩ := bcell hb4
      have hz4 : wr.heap.size + 2 ≤ w4.heap.size := by have := hb4.size; simpa using this
      have e0 : w4.cell? ⟨wr.heap.size, 0, none⟩ = some (.int .i64 ok) := by rw [hc4 _ _ (Nat.lt_succ_self _)]; exact cell_later ((Below.refl _ _).alloc (Nat.le_refl _) _) E0
      have e1 : w4.cell? ⟨wr.heap.size, 1, none⟩ = some (.string onm) := by rw [hc4 _ _ (Nat.lt_succ_self _)]; exact cell_later ((Below.refl _ _).alloc (Nat.le_refl _) _) E1
      have e2 : w4.cell? ⟨wr.heap.size, 2, none⟩ = some (.string odst) := by rw [hc4 _ _ (Nat.lt_succ_self _)]; exact cell_later ((Below.refl _ _).alloc (Nat.le_refl _) _) E2
      have e3 : w4.cell? ⟨wr.heap.size, 3, none⟩ = some (.slice xA xN xC) := by rw [hc4 _ _ (Nat.lt_succ_self _)]; exact G3
      have f3 : w4.frozen? ⟨wr.heap.size, 3, none⟩ = false := by rw [hf4 _ _ (Nat.lt_succ_self _)]; simp [go_sem]
      have s0 : (w4.setCell ⟨wr.heap.size, 3, none⟩ (.slice A4 xN C4)).cell? ⟨wr.heap.size, 0, none⟩ = some (.int .i64 ok) := by rw [World.cell?_setCell_other _ _ _ _ (by simp)]; exact e0
      have s1 : (w4.setCell ⟨wr.heap.size, 3, none⟩ (.slice A4 xN C4)).cell? ⟨wr.heap.size, 1, none⟩ = some (.string onm) := by rw [World.cell?_setCell_other _ _ _ _ (by simp)]; exact e1
      have s2 : (w4.setCell ⟨wr.heap.size, 3, none⟩ (.slice A4 xN C4)).cell? ⟨wr.heap.size, 2, none⟩ = some (.string odst) := by rw [World.cell?_setCell_other _ _ _ _ (by simp)]; exact e2
      have s3 : (w4.setCell ⟨wr.heap.size, 3, none⟩ (.slice A4 xN C4)).cell? ⟨wr.heap.size, 3, none⟩ = some (.slice A4 xN C4) := World.cell?_setCell_same _ _ _ e3
      have hw4 := Win.set (lo := wr.heap.size) (hi := wr.heap.size + 1) w4 wr.heap.size 3 (.slice A4 xN C4) (by omega) (by omega)
      have hin4 : OwnS (encI .u8) 1 5 (wr.heap.size + 1) w4.heap.size w4 A4 xN C4 xL := OwnS.of (by rw [flat_encI]; exact ho3) hxl (by omega)
      have hin5 := hin4.win hw4 (Or.inl (Nat.le_refl _))
      have hsz5 : (w4.setCell ⟨wr.heap.size, 3, none⟩ (.slice A4 xN C4)).heap.size = w4.heap.size := size_set _ _ _
      have hbW5 : Below wr.heap.size wr (w4.setCell ⟨wr.heap.size, 3, none⟩ (.slice A4 xN C4)) := ((hal.trans ((Below.refl _ _).alloc (by simp) (.cells #[] 5))).trans (hb4.mono (Nat.le_succ _))).trans (hw4.below (Nat.le_refl _) (by omega))
      clear hc4 hf4 ho2 ho3 hin4 hw4
      have hb6 : Below wr.heap.size wr ((w4.setCell ⟨wr.heap.size, 3, none⟩ (.slice A4 xN C4)).alloc (.cells #[.int .i64 ok, .string onm, .string odst, .slice A4 xN C4] 27)) := hbW5.alloc (by rw [hsz5]; omega) _
      have HO6 := Lib.hid (HO.out.below hb6)
      have hnews := news_four (w4.setCell ⟨wr.heap.size, 3, none⟩ (.slice A4 xN C4)) (.int .i64 ok) (.string onm) (.string odst) (.slice A4 xN C4) 27
      rw [hsz5] at hnews
      have hin6 : OwnS (encI .u8) 1 5 (wr.heap.size + 1) ((w4.setCell ⟨wr.heap.size, 3, none⟩ (.slice A4 xN C4)).alloc (.cells #[.int .i64 ok, .string onm, .string odst, .slice A4 xN C4] 27)).heap.size ((w4.setCell ⟨wr.heap.size, 3, none⟩ (.slice A4 xN C4)).alloc (.cells #[.int .i64 ok, .string onm, .string odst, .slice A4 xN C4] 27)) A4 xN C4 xL := (hin5.below ((Below.refl _ _).alloc (Nat.le_refl _) _)).grow (by simp [hsz5]) (Nat.le_refl _)
      clear hbW5 hin5
      go_wp2_with (at_builtin; refine wpList_append_lies _ (by rfl) _ _ _ (by rfl) W1.heap.size 27 i0 _ 4 64 Try.underlying32 hi hz0 hz1 hz2 rfl (by decide) (.slice qA qN qC) qN (qs.flatMap encFsOp) (by rfl) HO6.out.nest.row.own ⟨w4.heap.size, 0, none⟩ 1 1 [.int .i64 ok, .string onm, .string odst, .slice A4 xN C4] (by rfl) (by rfl) hnews (one_fsOp ⟨ok, onm, odst, A4, xN, C4, []⟩) (by decide) (by unfold maxLen; omega) (by omega) (Nat.le_trans hb.size hb6.size) _ rfl ?_)
      intro g9 C9 w9 ho9 hg9 hor9 hlt9
      rw [← hsz] at ho9
      rw [show w4.heap.size + 1 = ((w4.setCell ⟨wr.heap.size, 3, none⟩ (.slice A4 xN C4)).alloc (.cells #[.int .i64 ok, .string onm, .string odst, .slice A4 xN C4] 27)).heap.size from by simp [hsz5]] at hor9
      have HN := Lib.hid (OwnFsOpS.snoc HO6.out (Nat.le_succ _) (Nat.le_trans hb.size (Nat.le_succ _)) ⟨ok, onm, odst, A4, xN, C4, xL⟩ g9 C9 hin6 ho9 hg9 hor9 (by show qN < 100000000; omega))
      have HQ2 : Hid (datFsOpS ⟨some ⟨g9, 0, none⟩, qN + 1, C9, qs ++ [⟨ok, onm, odst, A4, xN, C4, xL⟩]⟩ = (os.take (qN + 1)).map datFsOp) := Lib.hid (by
        rw [HST.out, ← HQ.out]
        unfold datFsOpS
        rw [List.map_append]
        rfl)
      have hb9 : Below W1.heap.size W1 w9 := (hb.trans (hb6.mono hb.size)).trans (below_grown hg9 (Nat.le_trans hb.size hb6.size) (fun k hk => (World.ownsRow.lt HO6.out.nest.row.own k hk).1))
      clear ho9 hg9 hor9 hin6 hb6 HO6 hnews
      go_wp2
      go_roundw
      case rel => exact ⟨qN + 1, ⟨some ⟨g9, 0, none⟩, qN + 1, C9, qs ++ [⟨ok, onm, odst, A4, xN, C4, xL⟩]⟩, by omega, rfl, by go_num, rfl, HN, HQ2, hb9⟩
      case measure => simp [intOf]; omega
    · obtain rfl : qN = oN := by omega
      have t0 := cell_later hb y0
      have t1 := cell_later hb y1
      have t2 := cell_later hb y2
      have t3 := cell_later hb y3
      have c0 := cell_later hb z0
      have c1 := cell_later hb z1
      have c2 := cell_later hb z2
      have c3 := cell_later hb z3
      obtain ⟨_, hf⟩ := bcell hb
      have g3 : wr.frozen? ⟨w.heap.size, 3, none⟩ = false := by rw [hf _ _ (by omega)]; exact sf3
      have p0 : wr.frozen? ⟨w.heap.size + 1, 0, none⟩ = false := by rw [hf _ _ (by omega)]; exact sq0
      have p1 : wr.frozen? ⟨w.heap.size + 1, 1, none⟩ = false := by rw [hf _ _ (by omega)]; exact sq1
      have p2 : wr.frozen? ⟨w.heap.size + 1, 2, none⟩ = false := by rw [hf _ _ (by omega)]; exact sq2
      have p3 : wr.frozen? ⟨w.heap.size + 1, 3, none⟩ = false := by rw [hf _ _ (by omega)]; exact sq3
      clear hf
      have u0 : (wr.setCell ⟨w.heap.size, 3, none⟩ (.slice qA qN qC)).cell? ⟨w.heap.size, 0, none⟩ = some (.int .i64 room) := by rw [World.cell?_setCell_other _ _ _ _ (by simp)]; exact t0
      have u1 : (wr.setCell ⟨w.heap.size, 3, none⟩ (.slice qA qN qC)).cell? ⟨w.heap.size, 1, none⟩ = some (.int .i64 fuse) := by rw [World.cell?_setCell_other _ _ _ _ (by simp)]; exact t1
      have u2 : (wr.setCell ⟨w.heap.size, 3, none⟩ (.slice qA qN qC)).cell? ⟨w.heap.size, 2, none⟩ = some (.slice f.a f.n f.c) := by rw [World.cell?_setCell_other _ _ _ _ (by simp)]; exact t2
      have u3 : (wr.setCell ⟨w.heap.size, 3, none⟩ (.slice qA qN qC)).cell? ⟨w.heap.size, 3, none⟩ = some (.slice qA qN qC) := World.cell?_setCell_same _ _ _ t3
      go_wp2
      refine bodyPost_ret (v := .agg #[.int .i64 room, .int .i64 fuse, .slice f.a f.n f.c, .slice qA qN qC]) (by simp [results, Try.results57, go_sem, c0, c1, c2, c3]) rfl ?_
      have hw2 := (Win.set (lo := w.heap.size) (hi := w.heap.size + 2) wr w.heap.size 3 (.slice qA qN qC) (by omega) (by omega)).trans ((((Win.set _ (w.heap.size + 1) 0 (.int .i64 room) (by omega) (by omega)).trans (Win.set _ (w.heap.size + 1) 1 (.int .i64 fuse) (by omega) (by omega))).trans (Win.set _ (w.heap.size + 1) 2 (.slice f.a f.n f.c) (by omega) (by omega))).trans (Win.set _ (w.heap.size + 1) 3 (.slice qA qN qC) (by omega) (by omega)))
      have of3 := (HOF.out.below hb).win hw2 (Or.inl (Nat.le_refl _))
      have oo3 := HO.out.win hw2 (Or.inl (by omega))
      refine ⟨⟨room, fuse, f.a, f.n, f.c, f.l, qA, qN, qC, qs⟩, rfl, ?_, ⟨⟨W1.heap.size, by omega, by simp only [size_set]; exact hb.size, ?_, by simp only [size_set]; exact oo3⟩, Nat.le_refl _⟩, BBr.trans (hw2.below (Nat.le_refl _) BBr.size)⟩
      · unfold datDisk; rw [← HDF.out, ← HQ.out]; rfl
      · rw [hsz]; exact of3.lo_le (by omega)
end Go.Proofs.Ytoodlmhnemamhaa

/- A block of four cells that can be written; what a drawn region loads, kept. -/
namespace Go.Proofs.Ytoodlmhnemamhaa
open Go.RowKit
/-- A block of four cells that can be written. -/
structure OutC (X : Nat) (a b v2 v3 : Value) (w : World) : Prop where
  c0 : w.cell? ⟨X, 0, none⟩ = some a
  c1 : w.cell? ⟨X, 1, none⟩ = some b
  c2 : w.cell? ⟨X, 2, none⟩ = some v2
  c3 : w.cell? ⟨X, 3, none⟩ = some v3
  f : ∀ o, o < 4 → w.frozen? ⟨X, o, none⟩ = false
theorem OutC.mk0 (w : World) (a b c d : Value) (t : TypeId) : OutC w.heap.size a b c d (w.alloc (.cells #[a, b, c, d] t)) := by
  refine ⟨by simp [go_sem], by simp [go_sem], by simp [go_sem], by simp [go_sem], fun o ho => ?_⟩
  have h5 : o = 0 ∨ o = 1 ∨ o = 2 ∨ o = 3 := by omega
  rcases h5 with rfl | rfl | rfl | rfl <;> simp [go_sem]
theorem OutC.lt {X : Nat} {a b v2 v3 : Value} {w : World} (h : OutC X a b v2 v3 w) : X < w.heap.size := World.block_lt_of_cell? _ _ h.c0
theorem OutC.block {X : Nat} {a b v2 v3 : Value} {w w' : World} (h : OutC X a b v2 v3 w) (hk : w'.heap[X]? = w.heap[X]?) : OutC X a b v2 v3 w' :=
  ⟨(World.cell?_of_block (a := ⟨X, 0, none⟩) hk).trans h.c0, (World.cell?_of_block (a := ⟨X, 1, none⟩) hk).trans h.c1, (World.cell?_of_block (a := ⟨X, 2, none⟩) hk).trans h.c2, (World.cell?_of_block (a := ⟨X, 3, none⟩) hk).trans h.c3, fun o ho => (World.frozen?_of_block (a := ⟨X, o, none⟩) hk).trans (h.f o ho)⟩
theorem OutC.below {X : Nat} {a b v2 v3 : Value} {w w' : World} (h : OutC X a b v2 v3 w) {B : Nat} (hb : Below B w w') (hX : X < B) : OutC X a b v2 v3 w' := h.block (hb.block X hX)
theorem OutC.later {X : Nat} {a b v2 v3 : Value} {w w' : World} (h : OutC X a b v2 v3 w) (hb : Below w.heap.size w w') : OutC X a b v2 v3 w' := h.block (hb.block X h.lt)
theorem OutC.win {X : Nat} {a b v2 v3 : Value} {w w' : World} {lo hi : Nat} (h : OutC X a b v2 v3 w) (hw : Win lo hi w w') (hX : X < lo ∨ hi ≤ X) : OutC X a b v2 v3 w' := h.block (hw.block X h.lt hX)
theorem OutC.set0 {X : Nat} {a b v2 v3 : Value} {w : World} (h : OutC X a b v2 v3 w) (v : Value) : OutC X v b v2 v3 (w.setCell ⟨X, 0, none⟩ v) :=
  ⟨World.cell?_setCell_same _ _ _ h.c0, by rw [World.cell?_setCell_other _ _ _ _ (by simp)]; exact h.c1, by rw [World.cell?_setCell_other _ _ _ _ (by simp)]; exact h.c2, by rw [World.cell?_setCell_other _ _ _ _ (by simp)]; exact h.c3, fun o ho => by rw [World.frozen?_setCell]; exact h.f o ho⟩
theorem OutC.set1 {X : Nat} {a b v2 v3 : Value} {w : World} (h : OutC X a b v2 v3 w) (v : Value) : OutC X a v v2 v3 (w.setCell ⟨X, 1, none⟩ v) :=
  ⟨by rw [World.cell?_setCell_other _ _ _ _ (by simp)]; exact h.c0, World.cell?_setCell_same _ _ _ h.c1, by rw [World.cell?_setCell_other _ _ _ _ (by simp)]; exact h.c2, by rw [World.cell?_setCell_other _ _ _ _ (by simp)]; exact h.c3, fun o ho => by rw [World.frozen?_setCell]; exact h.f o ho⟩
theorem OutC.set2 {X : Nat} {a b v2 v3 : Value} {w : World} (h : OutC X a b v2 v3 w) (v : Value) : OutC X a b v v3 (w.setCell ⟨X, 2, none⟩ v) :=
  ⟨by rw [World.cell?_setCell_other _ _ _ _ (by simp)]; exact h.c0, by rw [World.cell?_setCell_other _ _ _ _ (by simp)]; exact h.c1, World.cell?_setCell_same _ _ _ h.c2, by rw [World.cell?_setCell_other _ _ _ _ (by simp)]; exact h.c3, fun o ho => by rw [World.frozen?_setCell]; exact h.f o ho⟩
theorem OutC.set3 {X : Nat} {a b v2 v3 : Value} {w : World} (h : OutC X a b v2 v3 w) (v : Value) : OutC X a b v2 v (w.setCell ⟨X, 3, none⟩ v) :=
  ⟨by rw [World.cell?_setCell_other _ _ _ _ (by simp)]; exact h.c0, by rw [World.cell?_setCell_other _ _ _ _ (by simp)]; exact h.c1, by rw [World.cell?_setCell_other _ _ _ _ (by simp)]; exact h.c2, World.cell?_setCell_same _ _ _ h.c3, fun o ho => by rw [World.frozen?_setCell]; exact h.f o ho⟩
/-- The four stores of a whole disk. -/
theorem win_four (w : World) (X lo hi : Nat) (h1 : lo ≤ X) (h2 : X < hi) (a b c d : Value) : Win lo hi w ((((w.setCell ⟨X, 0, none⟩ a).setCell ⟨X, 1, none⟩ b).setCell ⟨X, 2, none⟩ c).setCell ⟨X, 3, none⟩ d) :=
  (((Win.set w X 0 a h1 h2).trans (Win.set _ X 1 b h1 h2)).trans (Win.set _ X 2 c h1 h2)).trans (Win.set _ X 3 d h1 h2)
theorem keepQB {w w' : World} {X o1 o2 : Nat} {v1 v2 : Value} (hb : Below w.heap.size w w') (h : w.cell? ⟨X, o1, none⟩ = some v1 ∧ w.cell? ⟨X, o2, none⟩ = some v2) : w'.cell? ⟨X, o1, none⟩ = some v1 ∧ w'.cell? ⟨X, o2, none⟩ = some v2 :=
  ⟨cell_later hb h.1, cell_later hb h.2⟩
theorem keepQS {w : World} {X Y o o1 o2 : Nat} {v v1 v2 : Value} (hne : Y < X) (h : w.cell? ⟨X, o1, none⟩ = some v1 ∧ w.cell? ⟨X, o2, none⟩ = some v2) : (w.setCell ⟨Y, o, none⟩ v).cell? ⟨X, o1, none⟩ = some v1 ∧ (w.setCell ⟨Y, o, none⟩ v).cell? ⟨X, o2, none⟩ = some v2 :=
  ⟨cell_win (Win.set (lo := Y) (hi := Y + 1) w Y o v (Nat.le_refl _) (Nat.lt_succ_self _)) h.1 (Or.inr hne), cell_win (Win.set (lo := Y) (hi := Y + 1) w Y o v (Nat.le_refl _) (Nat.lt_succ_self _)) h.2 (Or.inr hne)⟩
theorem keepW {w w' : World} {X o1 o2 o3 o4 : Nat} {v1 v2 v3 v4 : Value} (hb : Below w.heap.size w w') (h : w.cell? ⟨X, o1, none⟩ = some v1 ∧ w.cell? ⟨X, o2, none⟩ = some v2 ∧ w.cell? ⟨X, o3, none⟩ = some v3 ∧ w.cell? ⟨X, o4, none⟩ = some v4) : w'.cell? ⟨X, o1, none⟩ = some v1 ∧ w'.cell? ⟨X, o2, none⟩ = some v2 ∧ w'.cell? ⟨X, o3, none⟩ = some v3 ∧ w'.cell? ⟨X, o4, none⟩ = some v4 :=
  ⟨cell_later hb h.1, cell_later hb h.2.1, cell_later hb h.2.2.1, cell_later hb h.2.2.2⟩
theorem keepWA {w : World} {X o1 o2 o3 o4 : Nat} {v1 v2 v3 v4 : Value} (h : w.cell? ⟨X, o1, none⟩ = some v1 ∧ w.cell? ⟨X, o2, none⟩ = some v2 ∧ w.cell? ⟨X, o3, none⟩ = some v3 ∧ w.cell? ⟨X, o4, none⟩ = some v4) (o : Obj) : (w.alloc o).cell? ⟨X, o1, none⟩ = some v1 ∧ (w.alloc o).cell? ⟨X, o2, none⟩ = some v2 ∧ (w.alloc o).cell? ⟨X, o3, none⟩ = some v3 ∧ (w.alloc o).cell? ⟨X, o4, none⟩ = some v4 :=
  keepW ((Below.refl _ _).alloc (Nat.le_refl _) o) h
theorem keepWW {w w' : World} {lo hi X o1 o2 o3 o4 : Nat} {v1 v2 v3 v4 : Value} (hw : Win lo hi w w') (hd : X < lo ∨ hi ≤ X) (h : w.cell? ⟨X, o1, none⟩ = some v1 ∧ w.cell? ⟨X, o2, none⟩ = some v2 ∧ w.cell? ⟨X, o3, none⟩ = some v3 ∧ w.cell? ⟨X, o4, none⟩ = some v4) : w'.cell? ⟨X, o1, none⟩ = some v1 ∧ w'.cell? ⟨X, o2, none⟩ = some v2 ∧ w'.cell? ⟨X, o3, none⟩ = some v3 ∧ w'.cell? ⟨X, o4, none⟩ = some v4 :=
  ⟨cell_win hw h.1 hd, cell_win hw h.2.1 hd, cell_win hw h.2.2.1 hd, cell_win hw h.2.2.2 hd⟩
theorem keepWS {w : World} {X Y o o1 o2 o3 o4 : Nat} {v v1 v2 v3 v4 : Value} (hne : Y < X) (h : w.cell? ⟨X, o1, none⟩ = some v1 ∧ w.cell? ⟨X, o2, none⟩ = some v2 ∧ w.cell? ⟨X, o3, none⟩ = some v3 ∧ w.cell? ⟨X, o4, none⟩ = some v4) : (w.setCell ⟨Y, o, none⟩ v).cell? ⟨X, o1, none⟩ = some v1 ∧ (w.setCell ⟨Y, o, none⟩ v).cell? ⟨X, o2, none⟩ = some v2 ∧ (w.setCell ⟨Y, o, none⟩ v).cell? ⟨X, o3, none⟩ = some v3 ∧ (w.setCell ⟨Y, o, none⟩ v).cell? ⟨X, o4, none⟩ = some v4 :=
  keepWW (Win.set (lo := Y) (hi := Y + 1) w Y o v (Nat.le_refl _) (Nat.lt_succ_self _)) (Or.inr hne) h
theorem keepWG {w w' : World} {X o1 o2 o3 o4 : Nat} {v1 v2 v3 v4 : Value} {r : Option Nat} (hX : ∀ q, r = some q → q < X) (hg : w.grownBy w' r) (h : w.cell? ⟨X, o1, none⟩ = some v1 ∧ w.cell? ⟨X, o2, none⟩ = some v2 ∧ w.cell? ⟨X, o3, none⟩ = some v3 ∧ w.cell? ⟨X, o4, none⟩ = some v4) : w'.cell? ⟨X, o1, none⟩ = some v1 ∧ w'.cell? ⟨X, o2, none⟩ = some v2 ∧ w'.cell? ⟨X, o3, none⟩ = some v3 ∧ w'.cell? ⟨X, o4, none⟩ = some v4 := by
  have hk := hg.block X (World.block_lt_of_cell? _ _ h.1) (fun e => Nat.lt_irrefl _ (hX X e.symm))
  exact ⟨(World.cell?_of_block (a := ⟨X, o1, none⟩) hk).trans h.1, (World.cell?_of_block (a := ⟨X, o2, none⟩) hk).trans h.2.1, (World.cell?_of_block (a := ⟨X, o3, none⟩) hk).trans h.2.2.1, (World.cell?_of_block (a := ⟨X, o4, none⟩) hk).trans h.2.2.2⟩
theorem OutC.grown {X : Nat} {a b v2 v3 : Value} {w w' : World} {r : Option Nat} (h : OutC X a b v2 v3 w) (hg : w.grownBy w' r) (hr : ∀ q, r = some q → X < q) : OutC X a b v2 v3 w' :=
  h.block (hg.block X h.lt (fun e => Nat.lt_irrefl _ (hr X e.symm)))
end Go.Proofs.Ytoodlmhnemamhaa

/- What the rounds of copyDisk leave. -/
namespace Go.Proofs.Ytoodlmhnemamhaa
open Go.RowKit
/-- What a round of copyDisk leaves: a file. -/
theorem fileRound {X H : Nat} {WF w4 w9 : World} {a b v3 : Value} {qA : Option Addr} {qN qC : Nat} {qs : List FileR} {nm : ByteArray} {A4 : Option Addr} {N4 C4 : Nat} {xL : List Int} {g9 C9 : Nat}
    (hO : OwnFileS (X + 1) H WF ⟨qA, qN, qC, qs⟩) (hC : OutC X a b (.slice qA qN qC) v3 WF) (hX : X + 1 ≤ H) (hb4 : Below WF.heap.size WF.drew w4) (ho4 : OwnI .u8 5 WF.heap.size w4.heap.size w4 A4 N4 C4 xL)
    (ho9 : w9.ownsRow (X + 1) 71 2 (.slice (some ⟨g9, 0, none⟩) (qN + 1) C9) (qN + 1) (qs.flatMap encFile ++ [.string nm, .slice A4 N4 C4])) (hg9 : (w4.alloc (.cells #[.string nm, .slice A4 N4 C4] 71)).grownBy w9 (Value.slice qA qN qC).ownBlock)
    (hor9 : (Value.slice qA qN qC).ownBlock = some g9 ∨ g9 = (w4.alloc (.cells #[.string nm, .slice A4 N4 C4] 71)).heap.size) (hsm : qN < 100000000) :
    OwnFileS (X + 1) (w9.setCell ⟨X, 2, none⟩ (.slice (some ⟨g9, 0, none⟩) (qN + 1) C9)).heap.size (w9.setCell ⟨X, 2, none⟩ (.slice (some ⟨g9, 0, none⟩) (qN + 1) C9)) ⟨some ⟨g9, 0, none⟩, qN + 1, C9, qs ++ [⟨nm, A4, N4, C4, xL⟩]⟩ ∧
    OutC X a b (.slice (some ⟨g9, 0, none⟩) (qN + 1) C9) v3 (w9.setCell ⟨X, 2, none⟩ (.slice (some ⟨g9, 0, none⟩) (qN + 1) C9)) ∧ Below X WF (w9.setCell ⟨X, 2, none⟩ (.slice (some ⟨g9, 0, none⟩) (qN + 1) C9)) := by
  have htop := hO.nest.row.top
  have hBW : Below WF.heap.size WF w4 := (show Below WF.heap.size WF WF.drew from (Below.refl _ _).drew).trans hb4
  have BA := hBW.alloc hBW.size (.cells #[.string nm, .slice A4 N4 C4] 71)
  have HOA := hO.below BA
  have hq : ∀ q, (Value.slice qA qN qC).ownBlock = some q → X < q := fun q hq => (World.ownsRow.lt hO.nest.row.own q hq).1
  have hin := ((ho4.toS.below ((Below.refl w4.heap.size w4).alloc (Nat.le_refl _) (.cells #[.string nm, .slice A4 N4 C4] 71))).grow (by simp) (Nat.le_refl _))
  have HN := OwnFileS.snoc HOA htop (Nat.le_trans hX htop) ⟨nm, A4, N4, C4, xL⟩ g9 C9 hin ho9 hg9 hor9 (by show qN < 100000000; exact hsm)
  have hwS := Win.set (lo := X) (hi := X + 1) w9 X 2 (.slice (some ⟨g9, 0, none⟩) (qN + 1) C9) (Nat.le_refl _) (Nat.lt_succ_self _)
  have hc9 := (hC.later BA).grown hg9 hq
  have hs9 : X ≤ w9.heap.size := Nat.le_of_lt hc9.lt
  refine ⟨by rw [size_set]; exact HN.win hwS (Or.inl (Nat.le_refl _)), hc9.set2 _, ?_⟩
  exact ((BA.mono (by omega)).trans (below_grown hg9 (by have := BA.size; omega) (fun q hqq => Nat.le_of_lt (hq q hqq)))).trans (hwS.below (Nat.le_refl _) hs9)
/-- What a round of copyDisk leaves: an operation. -/
theorem opRound {X m H : Nat} {WF w4 w9 : World} {a b v2 : Value} {qA : Option Addr} {qN qC : Nat} {qs : List FsOpR} {x : FsOpR} {g9 C9 : Nat}
    (hO : OwnFsOpS m H WF ⟨qA, qN, qC, qs⟩) (hC : OutC X a b v2 (.slice qA qN qC) WF) (hX : X < m) (hm : m ≤ H) (hb4 : Below WF.heap.size WF.drew w4) (ho4 : OwnS (encI .u8) 1 5 WF.heap.size w4.heap.size w4 x.dataA x.dataN x.dataC x.data)
    (ho9 : w9.ownsRow m 27 4 (.slice (some ⟨g9, 0, none⟩) (qN + 1) C9) (qN + 1) (qs.flatMap encFsOp ++ [.int .i64 x.kind, .string x.name, .string x.dst, .slice x.dataA x.dataN x.dataC])) (hg9 : (w4.alloc (.cells #[.int .i64 x.kind, .string x.name, .string x.dst, .slice x.dataA x.dataN x.dataC] 27)).grownBy w9 (Value.slice qA qN qC).ownBlock)
    (hor9 : (Value.slice qA qN qC).ownBlock = some g9 ∨ g9 = (w4.alloc (.cells #[.int .i64 x.kind, .string x.name, .string x.dst, .slice x.dataA x.dataN x.dataC] 27)).heap.size) (hsm : qN < 100000000) :
    OwnFsOpS m (w9.setCell ⟨X, 3, none⟩ (.slice (some ⟨g9, 0, none⟩) (qN + 1) C9)).heap.size (w9.setCell ⟨X, 3, none⟩ (.slice (some ⟨g9, 0, none⟩) (qN + 1) C9)) ⟨some ⟨g9, 0, none⟩, qN + 1, C9, qs ++ [x]⟩ ∧
    OutC X a b v2 (.slice (some ⟨g9, 0, none⟩) (qN + 1) C9) (w9.setCell ⟨X, 3, none⟩ (.slice (some ⟨g9, 0, none⟩) (qN + 1) C9)) ∧ Below X WF (w9.setCell ⟨X, 3, none⟩ (.slice (some ⟨g9, 0, none⟩) (qN + 1) C9)) ∧
    ∀ (F : Row FileR), OwnFileS (X + 1) m WF F → OwnFileS (X + 1) m (w9.setCell ⟨X, 3, none⟩ (.slice (some ⟨g9, 0, none⟩) (qN + 1) C9)) F := by
  have htop := hO.nest.row.top
  have hBW : Below WF.heap.size WF w4 := (show Below WF.heap.size WF WF.drew from (Below.refl _ _).drew).trans hb4
  have BA := hBW.alloc hBW.size (.cells #[.int .i64 x.kind, .string x.name, .string x.dst, .slice x.dataA x.dataN x.dataC] 27)
  have HOA := hO.below BA
  have hq : ∀ q, (Value.slice qA qN qC).ownBlock = some q → m ≤ q := fun q hq => (World.ownsRow.lt hO.nest.row.own q hq).1
  have hin := ((ho4.below ((Below.refl w4.heap.size w4).alloc (Nat.le_refl _) (.cells #[.int .i64 x.kind, .string x.name, .string x.dst, .slice x.dataA x.dataN x.dataC] 27))).grow (by simp) (Nat.le_refl _))
  have HN := OwnFsOpS.snoc HOA htop (Nat.le_trans hm htop) x g9 C9 hin ho9 hg9 hor9 (by show qN < 100000000; exact hsm)
  have hwS := Win.set (lo := X) (hi := X + 1) w9 X 3 (.slice (some ⟨g9, 0, none⟩) (qN + 1) C9) (Nat.le_refl _) (Nat.lt_succ_self _)
  have hc9 := (hC.later BA).grown hg9 (fun q hqq => Nat.lt_of_lt_of_le hX (hq q hqq))
  have hs9 : X ≤ w9.heap.size := Nat.le_of_lt hc9.lt
  refine ⟨by rw [size_set]; exact HN.win hwS (Or.inl hX), hc9.set3 _, ?_, ?_⟩
  · exact ((BA.mono (by omega)).trans (below_grown hg9 (by have := BA.size; omega) (fun q hqq => by have := hq q hqq; omega))).trans (hwS.below (Nat.le_refl _) hs9)
  · intro F hF
    have h1 := hF.below BA
    have h2 := h1.win (Win.of_grown (lo := m) (hi := w9.heap.size + m) hg9 (fun q hqq => ⟨hq q hqq, by have h3 := HOA.nest.row.lt q hqq; have h4 := hg9.size; have h5 := BA.size; omega⟩)) (Or.inr (Nat.le_refl _))
    exact h2.win hwS (Or.inl (Nat.le_refl _))
end Go.Proofs.Ytoodlmhnemamhaa

/- copyDisk of the program. -/
namespace Go.Proofs.Ytoodlmhnemamhaa
open Go.RowKit
set_option maxRecDepth 100000 in
set_option maxHeartbeats 12800000 in
theorem copyDisk_any (y : DiskR) (w : World) (g : rdDisk w y) (hn : bulkDisk y ≤ 1048576) (n12 : y.filesN ≤ 10000000) (n60 : y.waitN ≤ 10000000) :
    Calls Try.prog 58 #[.agg #[.int .i64 y.room, .int .i64 y.fuse, .slice y.filesA y.filesN y.filesC, .slice y.waitA y.waitN y.waitC]] w fun e w' => RetDO (datDisk y) w e w' := by
  obtain ⟨room, fuse, fA, fN, fC, fs, oA, oN, oC, os⟩ := y
  obtain ⟨⟨gf, gfi⟩, go, goi⟩ := g
  unfold bulkDisk at hn
  simp only [fR, oR] at gf gfi go goi hn n12 n60 ⊢
  have HSB : Hid (sizeF (datFileS ⟨fA, fN, fC, fs⟩) ≤ 10000000) := Lib.hid (by have := size_bulk (w := w) (y := ⟨fA, fN, fC, fs⟩) ⟨gf, gfi⟩; omega)
  have HZ : Hid (∀ f ∈ fs, f.dataN ≤ 10000000) := Lib.hid (fun f hf => by
    have h1 := le_sizeF (datFileS ⟨fA, fN, fC, fs⟩) (datFile f) (List.mem_map_of_mem hf)
    have h2 := (gfi f hf).len
    have h4 := HSB.out
    unfold datFile at h1
    simp only at h1
    have h3 : f.data.length = f.dataN := h2
    omega)
  have HFL : Hid (fs.length = fN) := Lib.hid gf.len
  have HOL : Hid (os.length = oN) := Lib.hid go.len
  have HDN : Hid (∀ k, k < os.length → (atFsOp os k).dataN ≤ 1048576) := Lib.hid (fun k hk => by
    have h1 := preFsOp_top os k hk
    have h2 : bulkFsOpS ⟨oA, oN, oC, os⟩ = oN + preFsOp os os.length := rfl
    have h3 : (atFsOp os k).dataN ≤ bulkFsOp (atFsOp os k) := by unfold bulkFsOp; omega
    omega)
  have om := go.max
  have ol := go.le
  have fm := gf.max
  have fl := gf.le
  unfold maxLen at om fm
  have hb0 := (((Below.refl w.heap.size w).alloc (Nat.le_refl _) (.cells #[.int .i64 room, .int .i64 fuse, .slice fA fN fC, .slice oA oN oC] 34)).alloc (by simp) (.cells #[.int .i64 0, .int .i64 0, .slice none 0 0, .slice none 0 0] 34)).alloc (by simp; omega) (.cells #[.int .i64 room, .int .i64 fuse, .slice none 0 0, .slice none 0 0] 34)
  have HGO : Hid (∀ x ∈ os, rdFsOp w x) := Lib.hid goi
  have HGF : Hid (∀ x ∈ fs, rdFile w x) := Lib.hid gfi
  obtain ⟨i0, hi, hz0, hz1, hz2⟩ := info_parts infoFsOp
  obtain ⟨i1, ji, jz0, jz1, jz2⟩ := info_parts infoFile
  have HDT : Hid (datDisk ⟨room, fuse, fA, fN, fC, fs, oA, oN, oC, os⟩ = (room, fuse, (fs.take fN).map datFile, (os.take oN).map datFsOp)) := Lib.hid (by rw [← HOL.out, ← HFL.out, List.take_length, List.take_length]; rfl)
  have HAA := OutC.mk0 w (.int .i64 room) (.int .i64 fuse) (.slice fA fN fC) (.slice oA oN oC) 34
  have HBB := OutC.mk0 (w.alloc (.cells #[.int .i64 room, .int .i64 fuse, .slice fA fN fC, .slice oA oN oC] 34)) (.int .i64 0) (.int .i64 0) (.slice none 0 0) (.slice none 0 0) 34
  have HCC := OutC.mk0 ((w.alloc (.cells #[.int .i64 room, .int .i64 fuse, .slice fA fN fC, .slice oA oN oC] 34)).alloc (.cells #[.int .i64 0, .int .i64 0, .slice none 0 0, .slice none 0 0] 34)) (.int .i64 room) (.int .i64 fuse) (.slice none 0 0) (.slice none 0 0) 34
  have HA := Lib.hid ((HAA.later ((Below.refl _ _).alloc (Nat.le_refl _) (.cells #[.int .i64 0, .int .i64 0, .slice none 0 0, .slice none 0 0] 34))).later ((Below.refl _ _).alloc (Nat.le_refl _) (.cells #[.int .i64 room, .int .i64 fuse, .slice none 0 0, .slice none 0 0] 34)))
  have HB := Lib.hid (HBB.later ((Below.refl _ _).alloc (Nat.le_refl _) (.cells #[.int .i64 room, .int .i64 fuse, .slice none 0 0, .slice none 0 0] 34)))
  have HC := Lib.hid HCC
  rw [show ((w.alloc (.cells #[.int .i64 room, .int .i64 fuse, .slice fA fN fC, .slice oA oN oC] 34)).alloc (.cells #[.int .i64 0, .int .i64 0, .slice none 0 0, .slice none 0 0] 34)).heap.size = w.heap.size + 2 from by simp] at HC
  rw [show (w.alloc (.cells #[.int .i64 room, .int .i64 fuse, .slice fA fN fC, .slice oA oN oC] 34)).heap.size = w.heap.size + 1 from by simp] at HB
  clear HAA HBB HCC
  have a2 := HA.out.c2
  have hs0 : w.heap.size + 3 = (((w.alloc (.cells #[.int .i64 room, .int .i64 fuse, .slice fA fN fC, .slice oA oN oC] 34)).alloc (.cells #[.int .i64 0, .int .i64 0, .slice none 0 0, .slice none 0 0] 34)).alloc (.cells #[.int .i64 room, .int .i64 fuse, .slice none 0 0, .slice none 0 0] 34)).heap.size := by simp
  rw [HDT.out]
  clear gfi goi hn HDT HSB
  go_enter Try.func58, Try.ntmps58
  go_wp2_with fail
  generalize ((w.alloc (.cells #[.int .i64 room, .int .i64 fuse, .slice fA fN fC, .slice oA oN oC] 34)).alloc (.cells #[.int .i64 0, .int .i64 0, .slice none 0 0, .slice none 0 0] 34)).alloc (.cells #[.int .i64 room, .int .i64 fuse, .slice none 0 0, .slice none 0 0] 34) = W0 at *
  go_loopw [16] (fun i wr => ∃ (k : Nat) (q : Row FileR), k ≤ fN ∧ i = .int .i64 k ∧ q.n = k ∧ Hid (OwnFileS (w.heap.size + 3) wr.heap.size wr q) ∧ Hid (datFileS q = (fs.take k).map datFile) ∧ Hid (OutC (w.heap.size + 2) (.int .i64 room) (.int .i64 fuse) (.slice q.a q.n q.c) (.slice none 0 0) wr) ∧ Below (w.heap.size + 2) W0 wr) (fun i _ => fN - (intOf i).toNat)
  case atStart => exact ⟨0, ⟨none, 0, 0, []⟩, Nat.zero_le _, rfl, rfl, Lib.hid (OwnFileS.nil _ _), Lib.hid rfl, HC, Below.refl _ _⟩
  case round =>
    obtain ⟨k, q, hk, rfl, hqk, HO, HQ, HCr, hb⟩ := hrel
    obtain ⟨qA, qN, qC, qs⟩ := q
    simp only at hqk
    subst hqk
    have BBr := hb0.trans (hb.mono (by omega))
    have hsr : w.heap.size + 3 ≤ wr.heap.size := by have := hb.size; omega
    by_cases hlt : qN < fN
    · obtain ⟨b, off, rfl, hbl, hcc⟩ := gf.rowFile (by omega)
      obtain ⟨k0, k1⟩ := hcc qN hlt
      have cb : ∀ o, wr.cell? ⟨b, o, none⟩ = w.cell? ⟨b, o, none⟩ := fun o => BBr.cell (p := ⟨b, o, none⟩) hbl
      rw [← cb] at k0 k1
      have hi1 : (qN : Int) < (fN : Int) := by omega
      have hkx : qN < fs.length := by rw [HFL.out]; exact hlt
      have hxn : (atFile fs qN).dataN ≤ 10000000 := by rw [atFile_eq fs qN hkx]; exact HZ.out _ (List.getElem_mem hkx)
      have HXR : Hid (rdFile wr (atFile fs qN)) := Lib.hid (by rw [atFile_eq fs qN hkx]; exact rdFile_below (HGF.out _ (List.getElem_mem hkx)) BBr (Nat.le_refl _))
      have HST : Hid ((fs.take (qN + 1)).map datFile = (fs.take qN).map datFile ++ [datFile (atFile fs qN)]) := Lib.hid (by rw [List.take_succ_eq_append_getElem hkx, List.map_append, atFile_eq fs qN hkx]; rfl)
      clear hcc cb hkx
      generalize atFile fs qN = x at *
      obtain ⟨nm, xA, xN, xC, xL⟩ := x
      try simp only at k0 k1 hxn
      have hal := (Below.refl wr.heap.size wr).alloc (Nat.le_refl _) (.cells #[.string nm, .slice xA xN xC] 71)
      have E0 : (wr.alloc (.cells #[.string nm, .slice xA xN xC] 71)).cell? ⟨wr.heap.size, 0, none⟩ = some (.string nm) := by simp [go_sem]
      have E1 : (wr.alloc (.cells #[.string nm, .slice xA xN xC] 71)).cell? ⟨wr.heap.size, 1, none⟩ = some (.slice xA xN xC) := by simp [go_sem]
      have HOF := Lib.hid (HO.out.below hal)
      have HCF := Lib.hid (HCr.out.later hal)
      have HXF := Lib.hid (rdFile_below HXR.out hal (Nat.le_refl _))
      have hwF : (wr.alloc (.cells #[.string nm, .slice xA xN xC] 71)).heap.size = wr.heap.size + 1 := by simp
      have hbF := hb.trans (hal.mono (by omega))
      clear a2 hal
      go_wp2_with fail
      generalize wr.alloc (.cells #[.string nm, .slice xA xN xC] 71) = WF at *
      have hbD : Below WF.heap.size WF WF.drew := (Below.refl _ _).drew
      have HXD := Lib.hid (rdFile_below HXF.out hbD (Nat.le_refl _))
      have K0 : WF.drew.cell? ⟨w.heap.size + 2, 2, none⟩ = some (.slice qA qN qC) := HCF.out.c2
      have J0 : WF.drew.cell? ⟨wr.heap.size, 0, none⟩ = some (.string nm) := E0
      have J1 : WF.drew.cell? ⟨wr.heap.size, 1, none⟩ = some (.slice xA xN xC) := E1
      have hqg : ∀ q, (Value.slice qA qN qC).ownBlock = some q → q < wr.heap.size := fun q hq => HOF.out.nest.row.lt q hq
      have hqo : ∀ q, (Value.slice qA qN qC).ownBlock = some q → w.heap.size + 2 < q := fun q hq => (World.ownsRow.lt HOF.out.nest.row.own q hq).1
      have hXlt : w.heap.size + 2 < wr.heap.size := by omega
      go_region_law (first
          | (go_simp; go_at_call 56; refine (copyBytes_any xA xN xC xL _ HXD.out (by omega)).mono ?_; rintro e w4 ⟨A4, N4, C4, rfl, ho4, hb4⟩; have K4 := cell_later hb4 K0; have L4 := cell_later hb4 J0; have K5 := cell_later ((Below.refl w4.heap.size w4).alloc (Nat.le_refl _) (.cells #[.string nm, .slice A4 N4 C4] 71)) K4)
          | (refine step_append_lies _ (by rfl) _ _ _ (by rfl) (w.heap.size + 3) 71 i1 _ 2 40 Try.underlying31 ji jz0 jz1 jz2 rfl (by decide) (.slice qA qN qC) qN (qs.flatMap encFile) (by rfl) ((HOF.out.below ((hbD.trans hb4).alloc (hbD.trans hb4).size _)).nest.row.own) ⟨w4.heap.size, 0, none⟩ 1 1 [.string nm, .slice A4 N4 C4] (by rfl) (by rfl) (news_twoB w4 _ _ _) (one_file ⟨nm, A4, N4, C4, []⟩) (by decide) (by unfold maxLen; omega) (by omega) (by have := ((hbD.trans hb4).alloc (hbD.trans hb4).size (.cells #[.string nm, .slice A4 N4 C4] 71)).size; omega) _ rfl ?_; rintro g9 C9 w9 ho9 hg9 hor9 hlt9; have HC9 := ((HCF.out.later (hbD.trans hb4)).later ((Below.refl _ _).alloc (Nat.le_refl _) (.cells #[.string nm, .slice A4 N4 C4] 71))).grown hg9 hqo; have M9 := HC9.c2; have N9 := HC9.f 2 (by omega)))
      all_goals
        have ⟨HN, HC2, hb9⟩ := fileRound (X := w.heap.size + 2) HOF.out HCF.out (by omega) hb4 ho4 ho9 hg9 (by simpa using hor9) (by omega)
        have HN2 := Lib.hid HN
        have HC3 := Lib.hid HC2
        have hb10 := hbF.trans hb9
        clear HN HC2 hb9 ho9 hg9 hor9 hb4 ho4 K0 K4 K5 L4 J0 J1 M9 N9 HC9 hlt9
        have HQ2 : Hid (datFileS ⟨some ⟨g9, 0, none⟩, qN + 1, C9, qs ++ [⟨nm, A4, N4, C4, xL⟩]⟩ = (fs.take (qN + 1)).map datFile) := Lib.hid (by
          rw [HST.out, ← HQ.out]
          unfold datFileS
          rw [List.map_append]
          rfl)
        go_wp2
        go_roundw
        case rel => exact ⟨qN + 1, ⟨some ⟨g9, 0, none⟩, qN + 1, C9, qs ++ [⟨nm, A4, N4, C4, xL⟩]⟩, by omega, by go_num, rfl, HN2, HQ2, HC3, hb10⟩
        case measure => simp [intOf]; omega
    · obtain rfl : qN = fN := by omega
      obtain ⟨V, hV⟩ : ∃ V, V = wr := ⟨wr, rfl⟩
      subst hV
      have HAr := Lib.hid (HA.out.below hb (by omega))
      have HBr := Lib.hid (HB.out.below hb (by omega))
      have a3 := HAr.out.c3
      clear HA HB HC
      go_wp2_with fail
      go_loopw [35] (fun i wr => ∃ (k : Nat) (q : Row FsOpR), k ≤ oN ∧ i = .int .i64 k ∧ q.n = k ∧ Hid (OwnFsOpS V.heap.size wr.heap.size wr q) ∧ Hid (datFsOpS q = (os.take k).map datFsOp) ∧ Hid (OutC (w.heap.size + 2) (.int .i64 room) (.int .i64 fuse) (.slice qA qN qC) (.slice q.a q.n q.c) wr) ∧ Hid (OwnFileS (w.heap.size + 3) V.heap.size wr ⟨qA, qN, qC, qs⟩) ∧ Below (w.heap.size + 2) V wr) (fun i _ => oN - (intOf i).toNat)
      case atStart => exact ⟨0, ⟨none, 0, 0, []⟩, Nat.zero_le _, rfl, rfl, Lib.hid (OwnFsOpS.nil _ _), Lib.hid rfl, HCr, HO, Below.refl _ _⟩
      case round =>
        obtain ⟨k, q, hk2, rfl, hqk, HOo, HQo, HCo, HFo, hbo⟩ := hrel
        obtain ⟨pA, pN, pC, ps⟩ := q
        simp only at hqk
        subst hqk
        have BBo := BBr.trans (hbo.mono (by omega))
        have hsz2 : V.heap.size ≤ wr.heap.size := hbo.size
        by_cases hlt2 : pN < oN
        · obtain ⟨b, off, rfl, hbl, hcc⟩ := go.rowFsOp (by omega)
          obtain ⟨k0, k1, k2, k3⟩ := hcc pN hlt2
          have cb : ∀ o, wr.cell? ⟨b, o, none⟩ = w.cell? ⟨b, o, none⟩ := fun o => BBo.cell (p := ⟨b, o, none⟩) hbl
          rw [← cb] at k0 k1 k2 k3
          have hi1 : (pN : Int) < (oN : Int) := by omega
          have hkx : pN < os.length := by rw [HOL.out]; exact hlt2
          have hxn : (atFsOp os pN).dataN ≤ 1048576 := HDN.out _ hkx
          have HXR : Hid (rdFsOp wr (atFsOp os pN)) := Lib.hid (by rw [atFsOp_eq os pN hkx]; exact rdFsOp_below (HGO.out _ (List.getElem_mem hkx)) BBo (Nat.le_refl _))
          have HST : Hid ((os.take (pN + 1)).map datFsOp = (os.take pN).map datFsOp ++ [datFsOp (atFsOp os pN)]) := Lib.hid (by rw [List.take_succ_eq_append_getElem hkx, List.map_append, atFsOp_eq os pN hkx]; rfl)
          clear hcc cb hkx
          generalize atFsOp os pN = x at *
          obtain ⟨ok, onm, odst, xA, xN, xC, xL⟩ := x
          try simp only at k0 k1 k2 k3 hxn
          have hal := (Below.refl wr.heap.size wr).alloc (Nat.le_refl _) (.cells #[.int .i64 ok, .string onm, .string odst, .slice xA xN xC] 27)
          have HE := OutC.mk0 wr (.int .i64 ok) (.string onm) (.string odst) (.slice xA xN xC) 27
          have HOF := Lib.hid (HOo.out.below hal)
          have HFF := Lib.hid (HFo.out.below hal)
          have HCF := Lib.hid (HCo.out.later hal)
          have HXF := Lib.hid (rdFsOp_below HXR.out hal (Nat.le_refl _))
          have hwF : (wr.alloc (.cells #[.int .i64 ok, .string onm, .string odst, .slice xA xN xC] 27)).heap.size = wr.heap.size + 1 := by simp
          have hbF := hbo.trans (hal.mono (by omega))
          clear hal a3
          go_wp2_with fail
          generalize wr.alloc (.cells #[.int .i64 ok, .string onm, .string odst, .slice xA xN xC] 27) = WF at *
          have hbD : Below WF.heap.size WF WF.drew := (Below.refl _ _).drew
          have HXD := Lib.hid (rdFsOp_below HXF.out hbD (Nat.le_refl _))
          have K0 : WF.drew.cell? ⟨w.heap.size + 2, 3, none⟩ = some (.slice pA pN pC) := HCF.out.c3
          have J0 : WF.drew.cell? ⟨wr.heap.size, 0, none⟩ = some (.int .i64 ok) := HE.c0
          have J1 : WF.drew.cell? ⟨wr.heap.size, 1, none⟩ = some (.string onm) := HE.c1
          have J2 : WF.drew.cell? ⟨wr.heap.size, 2, none⟩ = some (.string odst) := HE.c2
          have J3 : WF.drew.cell? ⟨wr.heap.size, 3, none⟩ = some (.slice xA xN xC) := HE.c3
          have hqo : ∀ q, (Value.slice pA pN pC).ownBlock = some q → w.heap.size + 2 < q := fun q hq => by have := (World.ownsRow.lt HOF.out.nest.row.own q hq).1; omega
          go_region_law (first
            | (go_simp; go_at_call 60; refine (copyOp_any ⟨ok, onm, odst, xA, xN, xC, xL⟩ _ HXD.out (by show xN ≤ 100000000; omega)).mono ?_; rintro e w4 ⟨⟨o0, o1, o2, A4, N4, C4, L4⟩, rfl, hdx, hnx, ho4, hb4⟩; have K4 := cell_later hb4 K0; have K5 := cell_later ((Below.refl w4.heap.size w4).alloc (Nat.le_refl _) (.cells #[.int .i64 o0, .string o1, .string o2, .slice A4 N4 C4] 27)) K4)
            | (refine step_append_lies _ (by rfl) _ _ _ (by rfl) V.heap.size 27 i0 _ 4 64 Try.underlying32 hi hz0 hz1 hz2 rfl (by decide) (.slice pA pN pC) pN (ps.flatMap encFsOp) (by rfl) ((HOF.out.below ((hbD.trans hb4).alloc (hbD.trans hb4).size _)).nest.row.own) ⟨w4.heap.size, 0, none⟩ 1 1 [.int .i64 o0, .string o1, .string o2, .slice A4 N4 C4] (by rfl) (by rfl) (news_four w4 _ _ _ _ _) (one_fsOp ⟨o0, o1, o2, A4, N4, C4, []⟩) (by decide) (by unfold maxLen; omega) (by omega) (by have := ((hbD.trans hb4).alloc (hbD.trans hb4).size (.cells #[.int .i64 o0, .string o1, .string o2, .slice A4 N4 C4] 27)).size; omega) _ rfl ?_; rintro g9 C9 w9 ho9 hg9 hor9 hlt9; have HC9 := ((HCF.out.later (hbD.trans hb4)).later ((Below.refl _ _).alloc (Nat.le_refl _) (.cells #[.int .i64 o0, .string o1, .string o2, .slice A4 N4 C4] 27))).grown hg9 hqo; have M9 := HC9.c3; have N9 := HC9.f 3 (by omega)))
          all_goals
            have ⟨HN, HC2, hb9, HF9⟩ := opRound (X := w.heap.size + 2) (x := ⟨o0, o1, o2, A4, N4, C4, L4⟩) HOF.out HCF.out (by omega) hsz2 hb4 ho4 ho9 hg9 (by simpa using hor9) (by omega)
            have HN2 := Lib.hid HN
            have HC3 := Lib.hid HC2
            have HF10 := Lib.hid (HF9 _ HFF.out)
            have hb10 := hbF.trans hb9
            clear HN HC2 hb9 HF9 ho9 hg9 hor9 hb4 ho4 K0 K4 K5 J0 J1 J2 J3 M9 N9 HC9 hlt9
            have HQ2 : Hid (datFsOpS ⟨some ⟨g9, 0, none⟩, pN + 1, C9, ps ++ [⟨o0, o1, o2, A4, N4, C4, L4⟩]⟩ = (os.take (pN + 1)).map datFsOp) := Lib.hid (by
              rw [HST.out, ← HQo.out, ← hdx]
              unfold datFsOpS
              rw [List.map_append]
              rfl)
            clear hdx
            go_wp2
            go_roundw
            case rel => exact ⟨pN + 1, ⟨some ⟨g9, 0, none⟩, pN + 1, C9, ps ++ [⟨o0, o1, o2, A4, N4, C4, L4⟩]⟩, by omega, by go_num, rfl, HN2, HQ2, HC3, HF10, hb10⟩
            case measure => simp [intOf]; omega
        · obtain rfl : pN = oN := by omega
          obtain ⟨c0, c1, c2, c3, _⟩ := HCo.out
          obtain ⟨b0, b1, b2, b3, bf⟩ := HBr.out.below hbo (by omega)
          have p0 := bf 0 (by omega)
          have p1 := bf 1 (by omega)
          have p2 := bf 2 (by omega)
          have p3 := bf 3 (by omega)
          clear bf
          go_wp2
          refine bodyPost_ret (v := .agg #[.int .i64 room, .int .i64 fuse, .slice qA qN qC, .slice pA pN pC]) (by simp [results, Try.results58, go_sem, b0, b1, b2, b3]) rfl ?_
          have hw2 := win_four wr (w.heap.size + 1) (w.heap.size + 1) (w.heap.size + 2) (Nat.le_refl _) (by omega) (.int .i64 room) (.int .i64 fuse) (.slice qA qN qC) (.slice pA pN pC)
          have of3 := HFo.out.win hw2 (Or.inl (by omega))
          have oo3 := HOo.out.win hw2 (Or.inl (by omega))
          refine ⟨⟨room, fuse, qA, qN, qC, qs, pA, pN, pC, ps⟩, rfl, ?_, ⟨⟨V.heap.size, by omega, by simp only [size_set]; exact hsz2, of3.lo_le (by omega), by simp only [size_set]; exact oo3⟩, Nat.le_refl _⟩, BBo.trans (hw2.below (by omega) BBo.size)⟩
          have e1 := HQ.out; have e2 := HQo.out; unfold datDisk; show (room, fuse, datFileS ⟨qA, qN, qC, qs⟩, datFsOpS ⟨pA, pN, pC, ps⟩) = _; rw [e1, e2]; simp only [List.map_take]
end Go.Proofs.Ytoodlmhnemamhaa

/- DiskSet, DiskBend, DiskDo: what they answer, plain. -/
namespace Go.Proofs.Ytoodlmhnemamhaa
open Go.RowKit
theorem preFile_dat (xs : List FileR) (h : ∀ f ∈ xs, f.data.length = f.dataN) : preFile xs xs.length = ((xs.map datFile).map fun f : FD => f.1.size + f.2.length).sum := by
  unfold preFile
  rw [List.take_length, List.map_map]
  congr 1
  apply List.map_congr_left
  intro f hf
  have := h f hf
  show bulkFile f = f.name.size + f.data.length
  unfold bulkFile
  omega
theorem preFsOp_dat (xs : List FsOpR) (h : ∀ f ∈ xs, f.data.length = f.dataN) : preFsOp xs xs.length = ((xs.map datFsOp).map fun f : OD => f.2.1.size + f.2.2.1.size + f.2.2.2.length).sum := by
  unfold preFsOp
  rw [List.take_length, List.map_map]
  congr 1
  apply List.map_congr_left
  intro f hf
  have := h f hf
  show bulkFsOp f = f.name.size + f.dst.size + f.data.length
  unfold bulkFsOp
  omega
/-- How much a disk's data take. -/
def bulkFl (F : List FD) : Nat := F.length + (F.map fun f : FD => f.1.size + f.2.length).sum
def bulkOl (O : List OD) : Nat := O.length + (O.map fun f : OD => f.2.1.size + f.2.2.1.size + f.2.2.2.length).sum
def bulkD (D : DskD) : Nat := bulkFl D.2.2.1 + bulkOl D.2.2.2
theorem bulkDisk_dat {w : World} {y : DiskR} (g : rdDisk w y) : bulkDisk y = bulkD (datDisk y) := by
  obtain ⟨⟨gf, gfi⟩, go, goi⟩ := g
  have e1 := gf.len
  have e2 := go.len
  have e3 := preFile_dat y.files (fun f hf => (gfi f hf).len)
  have e4 := preFsOp_dat y.wait (fun f hf => (goi f hf).len)
  unfold bulkDisk bulkD bulkFl bulkOl bulkFileS bulkFsOpS datDisk datFileS datFsOpS fR oR at *
  simp only [List.length_map] at *
  omega
theorem bulkOl_snoc (O : List OD) (o : OD) : bulkOl (O ++ [o]) = bulkOl O + 1 + (o.2.1.size + o.2.2.1.size + o.2.2.2.length) := by
  unfold bulkOl
  rw [List.map_append, List.sum_append, List.length_append]
  simp only [List.map_cons, List.map_nil, List.sum_cons, List.sum_nil, List.length_cons, List.length_nil]
  omega
theorem filesN_le {y : DiskR} (hn : bulkDisk y ≤ 1048576) : y.filesN ≤ 10000000 := by
  unfold bulkDisk bulkFileS fR at hn
  simp only at hn
  omega
theorem waitN_le {y : DiskR} (hn : bulkDisk y ≤ 1048576) : y.waitN ≤ 10000000 := by
  unfold bulkDisk bulkFsOpS oR at hn
  simp only at hn
  omega
theorem OwnDisk.grow {lo hi hi' : Nat} {w : World} {y : DiskR} (h : OwnDisk lo hi w y) (hl : hi ≤ hi') (ht : hi' ≤ w.heap.size) : OwnDisk lo hi' w y := by
  obtain ⟨⟨m, h1, h2, h3, h4⟩, _⟩ := h
  exact ⟨⟨m, h1, Nat.le_trans h2 hl, h3, h4.grow hl ht⟩, ht⟩
/-! the answers -/
def noD : DskD := (0, 0, [], [])
def okD (D : DskD) : Bool := diskB D.1 D.2.1 D.2.2.1 D.2.2.2
def burnI (f : Int) : Int := if 0 < f then f - 1 else f
def setD (D : DskD) (room fuse : Int) : DskD × Bool := if okD D = true ∧ okD (room, fuse, D.2.2.1, D.2.2.2) = true then ((room, fuse, D.2.2.1, D.2.2.2), true) else (noD, false)
theorem setD_no {D : DskD} {room fuse : Int} (h : ¬ (okD D = true ∧ okD (room, fuse, D.2.2.1, D.2.2.2) = true)) : setD D room fuse = (noD, false) := by
  unfold setD
  rw [if_neg h]
theorem setD_yes {D : DskD} {room fuse : Int} (h : okD D = true) (h2 : okD (room, fuse, D.2.2.1, D.2.2.2) = true) : setD D room fuse = ((room, fuse, D.2.2.1, D.2.2.2), true) := by
  unfold setD
  rw [if_pos ⟨h, h2⟩]
/-- The place of a name, the length where there is none. -/
def placeF (l : List FD) (nm : ByteArray) : Nat := l.findIdx fun f => eqN f.1 nm
def bendV (x mask : Int) : Int := ((x.toNat ^^^ mask.toNat : Nat) : Int)
def bendF (l : List FD) (k p : Nat) (mask : Int) : List FD := l.set k ((atFD l k).1, (atFD l k).2.set p (bendV ((atFD l k).2.getD p 0) mask))
def bendB (D : DskD) (nm : ByteArray) (p mask : Int) : Bool := decide (okD D = true ∧ D.2.2.2.length = 0 ∧ (1 ≤ mask ∧ mask ≤ 255) ∧ placeF D.2.2.1 nm < D.2.2.1.length ∧ 0 ≤ p ∧ p < ((atFD D.2.2.1 (placeF D.2.2.1 nm)).2.length : Int))
def bendD (D : DskD) (nm : ByteArray) (p mask : Int) : DskD × Bool := if bendB D nm p mask = true then ((D.1, D.2.1, bendF D.2.2.1 (placeF D.2.2.1 nm) p.toNat mask, D.2.2.2), true) else (noD, false)
theorem bendD_no {D : DskD} {nm : ByteArray} {p mask : Int} (h : ¬ (okD D = true ∧ D.2.2.2.length = 0 ∧ (1 ≤ mask ∧ mask ≤ 255) ∧ placeF D.2.2.1 nm < D.2.2.1.length ∧ 0 ≤ p ∧ p < ((atFD D.2.2.1 (placeF D.2.2.1 nm)).2.length : Int))) : bendD D nm p mask = (noD, false) := by
  unfold bendD bendB
  rw [if_neg (by rw [decide_eq_false h]; simp)]
theorem bendD_yes {D : DskD} {nm : ByteArray} {p mask : Int} (h : okD D = true ∧ D.2.2.2.length = 0 ∧ (1 ≤ mask ∧ mask ≤ 255) ∧ placeF D.2.2.1 nm < D.2.2.1.length ∧ 0 ≤ p ∧ p < ((atFD D.2.2.1 (placeF D.2.2.1 nm)).2.length : Int)) : bendD D nm p mask = ((D.1, D.2.1, bendF D.2.2.1 (placeF D.2.2.1 nm) p.toNat mask, D.2.2.2), true) := by
  unfold bendD bendB
  rw [if_pos (decide_eq_true h)]
theorem placeF_eq {l : List FD} {nm : ByteArray} {k : Nat} (hk : k < l.length) (he : eqN (atFD l k).1 nm = true) (hb : ∀ j, j < k → eqN (atFD l j).1 nm = false) : placeF l nm = k := by
  unfold placeF
  have at' : ∀ j (h : j < l.length), atFD l j = l[j] := fun j h => by simp [atFD, List.getD, h]
  rw [List.findIdx_eq hk]
  refine ⟨by rw [← at' k hk]; exact he, fun j hj => ?_⟩
  rw [← at' j (by omega)]
  exact hb j hj
theorem placeF_none {l : List FD} {nm : ByteArray} (h : ∀ j, j < l.length → eqN (atFD l j).1 nm = false) : placeF l nm = l.length := by
  unfold placeF
  rw [List.findIdx_eq_length]
  intro x hx
  obtain ⟨j, hj, rfl⟩ := List.getElem_of_mem hx
  have := h j hj
  have e : atFD l j = l[j] := by simp [atFD, List.getD, hj]
  rw [e] at this
  exact this
theorem placeF_at {l : List FD} {nm : ByteArray} (h : placeF l nm < l.length) : eqN (atFD l (placeF l nm)).1 nm = true := by
  have e : atFD l (placeF l nm) = l[placeF l nm] := by simp [atFD, List.getD, h]
  rw [e]
  exact List.findIdx_getElem (p := fun f : FD => eqN f.1 nm) (w := h)
/-- Names that go up: one place at most. -/
theorem placeF_one {l : List FD} {nm : ByteArray} (h : namesB l = true) {k : Nat} (hk : k < l.length) (he : eqN (atFD l k).1 nm = true) : placeF l nm = k := by
  refine placeF_eq hk he (fun j hj => eqN_ne ?_)
  have h1 := names_below h k hk j hj
  rw [eqN_iff.1 he] at h1
  exact ltN_ne h1
def doD (D : DskD) (o : OD) : DskD × Int :=
  if ¬ (okD D = true ∧ opOk o = true) then (noD, 1) else
  if D.2.1 = 0 then (D, 2) else
  if fitsB (seenD D) o = false then (D, 3) else
  if 60 ≤ D.2.2.2.length then (D, 4) else
  if o.1 = 2 ∧ D.1 - (sizeF (seenD D) : Int) < (o.2.2.2.length : Int) then
    (if 0 < D.1 - (sizeF (seenD D) : Int) then (D.1, burnI D.2.1, D.2.2.1, D.2.2.2 ++ [(o.1, o.2.1, o.2.2.1, o.2.2.2.take (D.1 - (sizeF (seenD D) : Int)).toNat)]) else (D.1, burnI D.2.1, D.2.2.1, D.2.2.2), 5)
  else ((D.1, burnI D.2.1, D.2.2.1, D.2.2.2 ++ [o]), 0)
/-- A disk of the call's own beside a truth value, or beside a number. -/
def RetDkB (r : DskD × Bool) (w : World) (en : Ending) (w' : World) : Prop := ∃ y : DiskR, en = .returned (.tuple #[.agg #[.int .i64 y.room, .int .i64 y.fuse, .slice y.filesA y.filesN y.filesC, .slice y.waitA y.waitN y.waitC], .bool r.2]) ∧ datDisk y = r.1 ∧ OwnDisk w.heap.size w'.heap.size w' y ∧ bulkDisk y ≤ 1048576 ∧ Below w.heap.size w w'
def RetDkI (r : DskD × Int) (w : World) (en : Ending) (w' : World) : Prop := ∃ y : DiskR, en = .returned (.tuple #[.agg #[.int .i64 y.room, .int .i64 y.fuse, .slice y.filesA y.filesN y.filesC, .slice y.waitA y.waitN y.waitC], .int .i64 r.2]) ∧ datDisk y = r.1 ∧ OwnDisk w.heap.size w'.heap.size w' y ∧ bulkDisk y ≤ 2097152 ∧ Below w.heap.size w w'
def noR : DiskR := ⟨0, 0, none, 0, 0, [], none, 0, 0, []⟩
theorem own_noR (lo : Nat) (w : World) (h : lo ≤ w.heap.size) : OwnDisk lo w.heap.size w noR :=
  ⟨⟨w.heap.size, h, Nat.le_refl _, OwnFileS.nil _ _, OwnFsOpS.nil _ _⟩, Nat.le_refl _⟩
theorem noR_bulk : bulkDisk noR ≤ 1048576 := by decide
theorem RetDkB.no {w w' : World} (hb : Below w.heap.size w w') : RetDkB (noD, false) w (.returned (.tuple #[.agg #[.int .i64 0, .int .i64 0, .slice Option.none 0 0, .slice Option.none 0 0], .bool false])) w' :=
  ⟨noR, rfl, rfl, own_noR _ _ hb.size, noR_bulk, hb⟩
theorem noR_bulk2 : bulkDisk noR ≤ 2097152 := by decide
theorem RetDkI.no {w w' : World} (hb : Below w.heap.size w w') : RetDkI (noD, 1) w (.returned (.tuple #[.agg #[.int .i64 0, .int .i64 0, .slice Option.none 0 0, .slice Option.none 0 0], .int .i64 1])) w' :=
  ⟨noR, rfl, rfl, own_noR _ _ hb.size, noR_bulk2, hb⟩
end Go.Proofs.Ytoodlmhnemamhaa

/- DiskDo: one operation more at the end of a disk's row; what it answers, case by case. -/
namespace Go.Proofs.Ytoodlmhnemamhaa
open Go.RowKit
theorem OwnDisk.whole {lo hi : Nat} {w : World} {y : DiskR} (h : OwnDisk lo hi w y) : OwnDisk lo w.heap.size w y := h.grow h.top (Nat.le_refl _)
theorem grown_set {w w' : World} {r : Option Nat} (h : w.grownBy w' r) {X o : Nat} {v : Value} (hX : X < w.heap.size) (hr : some X ≠ r) : (w.setCell ⟨X, o, none⟩ v).grownBy (w'.setCell ⟨X, o, none⟩ v) r := by
  refine ⟨h.os, h.tape, h.output, by rw [size_set, size_set]; exact h.size, fun k hk hne => ?_⟩
  rw [size_set] at hk
  by_cases e : k = X
  · subst e
    have h1 := h.block k hk hne
    simp only [World.setCell, Array.getElem?_modify]
    rw [h1]
  · rw [Below.heap_setCell _ _ _ _ e, Below.heap_setCell _ _ _ _ e]
    exact h.block k hk hne
theorem own_short {w : World} {b : Nat} {e : TypeId} {sz g n cap : Nat} {xs : List Value} (h : w.ownsRow b e sz (.slice (some ⟨g, 0, none⟩) n cap) n xs) {m : Nat} (hm : m ≤ n) : w.ownsRow b e sz (.slice (some ⟨g, 0, none⟩) m cap) m (xs.take (m * sz)) := by
  have hms : m * sz ≤ n * sz := Nat.mul_le_mul_right _ hm
  refine ⟨by rw [List.length_take, h.1]; omega, ?_⟩
  rcases h.2 with ⟨hv, _⟩ | ⟨g', cap', cur, hv, hb, hh, hle, hmx, hsz, htk⟩
  · cases hv
  · cases hv
    refine Or.inr ⟨g, cap, cur, rfl, hb, hh, by omega, hmx, hsz, ?_⟩
    rw [← htk, List.take_take]
    congr 1
    omega
theorem OwnS.short {e : TypeId} {lo hi : Nat} {w : World} {A : Option Addr} {n cap : Nat} {zs : List Int} (h : OwnS (encI .u8) 1 e lo hi w A n cap zs) {m : Nat} (hm : m ≤ n) (h0 : 0 < n) : OwnS (encI .u8) 1 e lo hi w A m cap (zs.take m) := by
  obtain ⟨g, hg⟩ := own_some h.own h0
  subst hg
  have h1 := own_short h.own hm
  rw [flat_encI, Nat.mul_one, ← List.map_take, ← flat_encI] at h1
  have hl := h.len
  have hs := h.small
  exact ⟨by rw [List.length_take]; omega, h1, fun q hq => h.lt q (by cases hq; rfl), h.top, by omega⟩
theorem opPush {X m H B : Nat} {W w9 : World} {a b v2 : Value} {qA : Option Addr} {qN qC : Nat} {qs : List FsOpR} {x : FsOpR} {g9 C9 : Nat}
    (hO : OwnFsOpS m H W ⟨qA, qN, qC, qs⟩) (hC : OutC X a b v2 (.slice qA qN qC) W) (hHX : H ≤ X) (hXB : X < B) (hmH : m ≤ H)
    (hin : OwnS (encI .u8) 1 5 B W.heap.size W x.dataA x.dataN x.dataC x.data)
    (ho9 : w9.ownsRow m 27 4 (.slice (some ⟨g9, 0, none⟩) (qN + 1) C9) (qN + 1) (qs.flatMap encFsOp ++ [.int .i64 x.kind, .string x.name, .string x.dst, .slice x.dataA x.dataN x.dataC]))
    (hg9 : (W.alloc (.cells #[.int .i64 x.kind, .string x.name, .string x.dst, .slice x.dataA x.dataN x.dataC] 27)).grownBy w9 (Value.slice qA qN qC).ownBlock)
    (hor9 : (Value.slice qA qN qC).ownBlock = some g9 ∨ g9 = (W.alloc (.cells #[.int .i64 x.kind, .string x.name, .string x.dst, .slice x.dataA x.dataN x.dataC] 27)).heap.size) (hsm : qN < 100000000) :
    OwnFsOpS m (w9.setCell ⟨X, 3, none⟩ (.slice (some ⟨g9, 0, none⟩) (qN + 1) C9)).heap.size (w9.setCell ⟨X, 3, none⟩ (.slice (some ⟨g9, 0, none⟩) (qN + 1) C9)) ⟨some ⟨g9, 0, none⟩, qN + 1, C9, qs ++ [x]⟩ ∧
    OutC X a b v2 (.slice qA qN qC) w9 ∧ Below m W w9 ∧ Below m W (w9.setCell ⟨X, 3, none⟩ (.slice (some ⟨g9, 0, none⟩) (qN + 1) C9)) ∧
    ∀ (lo : Nat) (F : Row FileR), OwnFileS lo m W F → OwnFileS lo m (w9.setCell ⟨X, 3, none⟩ (.slice (some ⟨g9, 0, none⟩) (qN + 1) C9)) F := by
  have htop := hO.nest.row.top
  have hXW := hC.lt
  have BA := (Below.refl W.heap.size W).alloc (Nat.le_refl _) (.cells #[.int .i64 x.kind, .string x.name, .string x.dst, .slice x.dataA x.dataN x.dataC] 27)
  have hq : ∀ q, (Value.slice qA qN qC).ownBlock = some q → m ≤ q ∧ q < H := fun q hq => ⟨(World.ownsRow.lt hO.nest.row.own q hq).1, hO.nest.row.lt q hq⟩
  have hsA : (W.alloc (.cells #[.int .i64 x.kind, .string x.name, .string x.dst, .slice x.dataA x.dataN x.dataC] 27)).heap.size = W.heap.size + 1 := by simp
  generalize W.alloc (.cells #[.int .i64 x.kind, .string x.name, .string x.dst, .slice x.dataA x.dataN x.dataC] 27) = W1 at *
  have hXr : some X ≠ (Value.slice qA qN qC).ownBlock := fun e => by have := (hq X e.symm).2; omega
  have hX1 : X < W1.heap.size := by omega
  have hgX : g9 ≠ X := by
    rcases hor9 with e | e
    · have := (hq g9 e).2; omega
    · omega
  have hgV := grown_set (o := 3) (v := .slice (some ⟨g9, 0, none⟩) (qN + 1) C9) hg9 hX1 hXr
  have hwX := fun (w : World) => Win.set (lo := X) (hi := X + 1) w X 3 (.slice (some ⟨g9, 0, none⟩) (qN + 1) C9) (Nat.le_refl _) (Nat.lt_succ_self _)
  have hOV := (hO.below BA).win (hwX W1) (Or.inr hHX)
  have hinV := ((hin.below BA).win (hwX W1) (Or.inl hXB)).grow (hi' := (W1.setCell ⟨X, 3, none⟩ (.slice (some ⟨g9, 0, none⟩) (qN + 1) C9)).heap.size) (by rw [size_set]; omega) (Nat.le_refl _)
  have ho2 : (w9.setCell ⟨X, 3, none⟩ (.slice (some ⟨g9, 0, none⟩) (qN + 1) C9)).ownsRow m 27 4 (.slice (some ⟨g9, 0, none⟩) (qN + 1) C9) (qN + 1) (qs.flatMap encFsOp ++ encFsOp x) :=
    own_keep ho9 (fun g hg => by cases hg; exact Below.heap_setCell _ _ _ _ hgX)
  refine ⟨OwnFsOpS.snoc hOV (by omega) (by omega) x g9 C9 hinV ho2 hgV (by rw [size_set]; exact hor9) hsm, ?_, ?_, ?_, ?_⟩
  · have h1 : w9.heap[X]? = W1.heap[X]? := hg9.block X hX1 hXr
    exact (hC.later BA).block h1
  · exact (BA.mono (by omega)).trans (below_grown hg9 (by have := hg9.size; omega) (fun q hqq => (hq q hqq).1))
  · have h2 := hg9.size
    exact ((BA.mono (by omega)).trans (below_grown hg9 (by omega) (fun q hqq => (hq q hqq).1))).trans ((hwX w9).below (by omega) (by omega))
  · intro lo F hF
    have h1 := hF.below BA
    have h2 := h1.win (Win.of_grown (lo := m) (hi := H) hg9 hq) (Or.inr (Nat.le_refl _))
    exact h2.win (hwX w9) (Or.inr (by omega))
/-- A row that is new, or bytes: a store into an old block that holds no byte does not touch them. -/
theorem rd_poke {w : World} {A : Option Addr} {n c : Nat} {L : List Int} (h : Rd (encI .u8) 1 w A n c L) {X o : Nat} {u v : Value} (hc : w.cell? ⟨X, o, none⟩ = some u) (hu : ∀ z, u ≠ .int .u8 z) : Rd (encI .u8) 1 (w.setCell ⟨X, o, none⟩ v) A n c L := by
  refine ⟨h.le, h.max, h.len, h.nil, fun hn => ?_⟩
  obtain ⟨b, off, ha, hb, hs⟩ := h.spot hn
  refine ⟨b, off, ha, by rw [size_set]; exact hb, fun i hi f x hx => ?_⟩
  have h1 := hs i hi f x hx
  rw [World.cell?_setCell_other _ _ _ _ (fun e => ?_)]
  · exact h1
  · rw [← e, hc] at h1
    have h2 : u = x := Option.some.inj h1
    have hm : x ∈ encI .u8 L[i] := List.mem_of_getElem? hx
    have h3 : x = .int .u8 L[i] := by simpa [encI] using hm
    exact hu _ (h2.trans h3)
theorem rdFileS_poke {w : World} {q : Row FileR} {lo : Nat} (h : rdFileS w q) (hf : FrB lo q) {X o : Nat} {u v : Value} (hX : X < lo) (hc : w.cell? ⟨X, o, none⟩ = some u) (hu : ∀ z, u ≠ .int .u8 z) : rdFileS (w.setCell ⟨X, o, none⟩ v) q := by
  refine ⟨⟨h.1.le, h.1.max, h.1.len, h.1.nil, fun hn => ?_⟩, fun x hx => rd_poke (h.2 x hx) hc hu⟩
  obtain ⟨b, off, ha, hb, hs⟩ := h.1.spot hn
  have hlo : lo ≤ b := hf b (by show (Value.slice q.a q.n q.c).ownBlock = some b; rw [ha]; rfl)
  refine ⟨b, off, ha, by rw [size_set]; exact hb, fun i hi f x hx => ?_⟩
  rw [World.cell?_setCell_other _ _ _ _ (fun e => ?_)]
  · exact hs i hi f x hx
  · have h4 : X = b := congrArg Addr.block e
    omega
theorem FM.poke {w : World} {b n : Nat} {M : List (ByteArray × Row Int)} (h : FM w b n M) {X o : Nat} {u v : Value} (hX : X ≠ b) (hc : w.cell? ⟨X, o, Option.none⟩ = some u) (hu : ∀ z, u ≠ .int .u8 z) : FM (w.setCell ⟨X, o, Option.none⟩ v) b n M :=
  ⟨h.own.setCell (fun e => hX e.symm) v, fun f hf => rd_poke (h.rd f hf) hc hu⟩
/-! the cases -/
theorem doD_bad {D : DskD} {o : OD} (h : ¬ (okD D = true ∧ opOk o = true)) : doD D o = (noD, 1) := by unfold doD; rw [if_pos h]
section
variable {D : DskD} {o : OD} (h1 : okD D = true) (h2 : opOk o = true)
include h1 h2
theorem doD_two (h3 : D.2.1 = 0) : doD D o = (D, 2) := by unfold doD; rw [if_neg (fun h => h ⟨h1, h2⟩), if_pos h3]
theorem doD_three (h3 : ¬ D.2.1 = 0) (h4 : fitsB (seenD D) o = false) : doD D o = (D, 3) := by unfold doD; rw [if_neg (fun h => h ⟨h1, h2⟩), if_neg h3, if_pos h4]
theorem doD_four (h3 : ¬ D.2.1 = 0) (h4 : fitsB (seenD D) o = true) (h5 : 60 ≤ D.2.2.2.length) : doD D o = (D, 4) := by unfold doD; rw [if_neg (fun h => h ⟨h1, h2⟩), if_neg h3, if_neg (by rw [h4]; simp), if_pos h5]
theorem doD_rest (h3 : ¬ D.2.1 = 0) (h4 : fitsB (seenD D) o = true) (h5 : D.2.2.2.length < 60) : doD D o =
    if o.1 = 2 ∧ D.1 - (sizeF (seenD D) : Int) < (o.2.2.2.length : Int) then
      (if 0 < D.1 - (sizeF (seenD D) : Int) then (D.1, burnI D.2.1, D.2.2.1, D.2.2.2 ++ [(o.1, o.2.1, o.2.2.1, o.2.2.2.take (D.1 - (sizeF (seenD D) : Int)).toNat)]) else (D.1, burnI D.2.1, D.2.2.1, D.2.2.2), 5)
    else ((D.1, burnI D.2.1, D.2.2.1, D.2.2.2 ++ [o]), 0) := by unfold doD; rw [if_neg (fun h => h ⟨h1, h2⟩), if_neg h3, if_neg (by rw [h4]; simp), if_neg (by omega)]
theorem doD_all (h3 : ¬ D.2.1 = 0) (h4 : fitsB (seenD D) o = true) (h5 : D.2.2.2.length < 60) (h6 : ¬ (o.1 = 2 ∧ D.1 - (sizeF (seenD D) : Int) < (o.2.2.2.length : Int))) : doD D o = ((D.1, burnI D.2.1, D.2.2.1, D.2.2.2 ++ [o]), 0) := by rw [doD_rest h1 h2 h3 h4 h5, if_neg h6]
theorem doD_part (h3 : ¬ D.2.1 = 0) (h4 : fitsB (seenD D) o = true) (h5 : D.2.2.2.length < 60) {L : Nat} (hL : D.1 - (sizeF (seenD D) : Int) = (L : Int)) (h6 : o.1 = 2) (h7 : L < o.2.2.2.length) (h8 : 0 < L) : doD D o = ((D.1, burnI D.2.1, D.2.2.1, D.2.2.2 ++ [(o.1, o.2.1, o.2.2.1, o.2.2.2.take L)]), 5) := by
  rw [doD_rest h1 h2 h3 h4 h5, if_pos ⟨h6, by omega⟩, if_pos (by omega), hL]
  rfl
theorem doD_none (h3 : ¬ D.2.1 = 0) (h4 : fitsB (seenD D) o = true) (h5 : D.2.2.2.length < 60) {L : Nat} (hL : D.1 - (sizeF (seenD D) : Int) = (L : Int)) (h6 : o.1 = 2) (h7 : L < o.2.2.2.length) (h8 : L = 0) : doD D o = ((D.1, burnI D.2.1, D.2.2.1, D.2.2.2), 5) := by
  rw [doD_rest h1 h2 h3 h4 h5, if_pos ⟨h6, by omega⟩, if_neg (by omega)]
end
theorem seen_room {D : DskD} (h : okD D = true) : (sizeF (seenD D) : Int) ≤ D.1 ∧ 0 ≤ D.1 ∧ D.1 ≤ 200000 ∧ -1 ≤ D.2.1 ∧ D.2.1 ≤ 2000 ∧ D.2.2.1.length ≤ 12 ∧ D.2.2.2.length ≤ 60 := by
  obtain ⟨L, s1, s2, s3, s4, s5⟩ := diskB_seen h
  have e : seenD D = L := by unfold seenD; rw [if_pos (show diskB D.1 D.2.1 D.2.2.1 D.2.2.2 = true from h), s1]; rfl
  have h4 := s1
  unfold seenB at h4
  split at h4
  · rename_i hs
    rw [e]
    exact ⟨runF_size _ _ _ h4 hs, s4⟩
  · cases h4
theorem seen_okD {D : DskD} (h : okD D = true) : seenB D.1 D.2.2.1 D.2.2.2 = some (seenD D) := by
  obtain ⟨L, s1, _⟩ := diskB_seen h
  have e : seenD D = L := by unfold seenD; rw [if_pos (show diskB D.1 D.2.1 D.2.2.1 D.2.2.2 = true from h), s1]; rfl
  rw [e]
  exact s1
theorem RetDkI.same {w w' : World} {y y2 : DiskR} {o : OD} {c : Int} (hX : doD (datDisk y) o = (datDisk y, c)) (hd : datDisk y2 = datDisk y) (ho : OwnDisk w.heap.size w'.heap.size w' y2) (hn : bulkDisk y2 ≤ 1048576) (hb : Below w.heap.size w w') :
    RetDkI (doD (datDisk y) o) w (.returned (.tuple #[.agg #[.int .i64 y2.room, .int .i64 y2.fuse, .slice y2.filesA y2.filesN y2.filesC, .slice y2.waitA y2.waitN y2.waitC], .int .i64 c])) w' := by
  rw [hX]
  exact ⟨y2, rfl, hd, ho, by omega, hb⟩
theorem RetDkI.nil {w w' : World} {y y2 : DiskR} {o : OD} {c : Int} (hX : doD (datDisk y) o = (((datDisk y).1, burnI (datDisk y).2.1, (datDisk y).2.2.1, (datDisk y).2.2.2), c)) (hd : datDisk y2 = datDisk y) (ho : OwnDisk w.heap.size w'.heap.size w' ⟨y2.room, burnI y2.fuse, y2.filesA, y2.filesN, y2.filesC, y2.files, y2.waitA, y2.waitN, y2.waitC, y2.wait⟩) (hn : bulkDisk y2 ≤ 1048576) (hb : Below w.heap.size w w') :
    RetDkI (doD (datDisk y) o) w (.returned (.tuple #[.agg #[.int .i64 y2.room, .int .i64 (burnI y2.fuse), .slice y2.filesA y2.filesN y2.filesC, .slice y2.waitA y2.waitN y2.waitC], .int .i64 c])) w' := by
  rw [hX]
  refine ⟨⟨y2.room, burnI y2.fuse, y2.filesA, y2.filesN, y2.filesC, y2.files, y2.waitA, y2.waitN, y2.waitC, y2.wait⟩, rfl, ?_, ho, ?_, hb⟩
  · rw [← hd]; rfl
  · show bulkDisk y2 ≤ 2097152; omega
theorem RetDkI.more {w w' : World} {y y2 : DiskR} {o : OD} {c : Int} {x : FsOpR} {g9 C9 : Nat} (hX : doD (datDisk y) o = (((datDisk y).1, burnI (datDisk y).2.1, (datDisk y).2.2.1, (datDisk y).2.2.2 ++ [datFsOp x]), c)) (hd : datDisk y2 = datDisk y)
    (ho : OwnDisk w.heap.size w'.heap.size w' ⟨y2.room, burnI y2.fuse, y2.filesA, y2.filesN, y2.filesC, y2.files, some ⟨g9, 0, none⟩, y2.waitN + 1, C9, y2.wait ++ [x]⟩) (hn : bulkDisk y2 + (x.name.size + x.dst.size + x.data.length) ≤ 1048576) (hr : rdDisk w y) (hn2 : bulkDisk y2 = bulkDisk y) (hb : Below w.heap.size w w') :
    RetDkI (doD (datDisk y) o) w (.returned (.tuple #[.agg #[.int .i64 y2.room, .int .i64 (burnI y2.fuse), .slice y2.filesA y2.filesN y2.filesC, .slice (some ⟨g9, 0, none⟩) (y2.waitN + 1) C9], .int .i64 c])) w' := by
  rw [hX]
  have hD : datDisk (⟨y2.room, burnI y2.fuse, y2.filesA, y2.filesN, y2.filesC, y2.files, some ⟨g9, 0, none⟩, y2.waitN + 1, C9, y2.wait ++ [x]⟩ : DiskR) = ((datDisk y).1, burnI (datDisk y).2.1, (datDisk y).2.2.1, (datDisk y).2.2.2 ++ [datFsOp x]) := by
    rw [← hd]
    show (y2.room, burnI y2.fuse, datFileS (fR y2), (y2.wait ++ [x]).map datFsOp) = _
    rw [List.map_append]
    rfl
  refine ⟨⟨y2.room, burnI y2.fuse, y2.filesA, y2.filesN, y2.filesC, y2.files, some ⟨g9, 0, none⟩, y2.waitN + 1, C9, y2.wait ++ [x]⟩, rfl, hD, ho, ?_, hb⟩
  rw [bulkDisk_dat ho.rd, hD]
  have e1 := bulkDisk_dat hr
  unfold bulkD at e1 ⊢
  show bulkFl (datDisk y).2.2.1 + bulkOl ((datDisk y).2.2.2 ++ [datFsOp x]) ≤ 2097152
  rw [bulkOl_snoc]
  show bulkFl (datDisk y).2.2.1 + (bulkOl (datDisk y).2.2.2 + 1 + (x.name.size + x.dst.size + x.data.length)) ≤ 2097152
  omega
end Go.Proofs.Ytoodlmhnemamhaa

/- DiskDo of the reference. -/
namespace Go.Proofs.Ytoodlmhnemamhaa
open Go.RowKit
set_option maxRecDepth 100000 in
set_option maxHeartbeats 25600000 in
theorem diskDo_spec_k (y : DiskR) (D : DskD) (hD : datDisk y = D) (o : FsOpR) (E : OD) (hE : datFsOp o = E) (w : World) (g : goodDisk w y) (go : goodFsOp w o) (hnn : bulkDisk y + bulkFsOp o ≤ 1048576) :
    Calls Try.prog 33 #[.agg #[.int .i64 y.room, .int .i64 y.fuse, .slice y.filesA y.filesN y.filesC, .slice y.waitA y.waitN y.waitC], .agg #[.int .i64 o.kind, .string o.name, .string o.dst, .slice o.dataA o.dataN o.dataC]] w fun e w' => RetDkI (doD D E) w e w' := by
  subst hD
  subst hE
  have hn : bulkDisk y ≤ 1048576 := by omega
  have hb0 := (((Below.refl w.heap.size w).alloc (Nat.le_refl _) (.cells #[.int .i64 y.room, .int .i64 y.fuse, .slice y.filesA y.filesN y.filesC, .slice y.waitA y.waitN y.waitC] 34)).alloc (by simp) (.cells #[.int .i64 o.kind, .string o.name, .string o.dst, .slice o.dataA o.dataN o.dataC] 27)).alloc (by simp; omega) (.cells #[.int .i64 0, .int .i64 0, .slice none 0 0, .slice none 0 0] 34)
  have HA0 := OutC.mk0 w (.int .i64 y.room) (.int .i64 y.fuse) (.slice y.filesA y.filesN y.filesC) (.slice y.waitA y.waitN y.waitC) 34
  have HP0 := OutC.mk0 (w.alloc (.cells #[.int .i64 y.room, .int .i64 y.fuse, .slice y.filesA y.filesN y.filesC, .slice y.waitA y.waitN y.waitC] 34)) (.int .i64 o.kind) (.string o.name) (.string o.dst) (.slice o.dataA o.dataN o.dataC) 27
  have HB0 := OutC.mk0 ((w.alloc (.cells #[.int .i64 y.room, .int .i64 y.fuse, .slice y.filesA y.filesN y.filesC, .slice y.waitA y.waitN y.waitC] 34)).alloc (.cells #[.int .i64 o.kind, .string o.name, .string o.dst, .slice o.dataA o.dataN o.dataC] 27)) (.int .i64 0) (.int .i64 0) (.slice none 0 0) (.slice none 0 0) 34
  rw [show (w.alloc (.cells #[.int .i64 y.room, .int .i64 y.fuse, .slice y.filesA y.filesN y.filesC, .slice y.waitA y.waitN y.waitC] 34)).heap.size = w.heap.size + 1 from by simp] at HP0
  rw [show ((w.alloc (.cells #[.int .i64 y.room, .int .i64 y.fuse, .slice y.filesA y.filesN y.filesC, .slice y.waitA y.waitN y.waitC] 34)).alloc (.cells #[.int .i64 o.kind, .string o.name, .string o.dst, .slice o.dataA o.dataN o.dataC] 27)).heap.size = w.heap.size + 2 from by simp] at HB0
  have HA := Lib.hid ((HA0.later ((Below.refl _ _).alloc (Nat.le_refl _) (.cells #[.int .i64 o.kind, .string o.name, .string o.dst, .slice o.dataA o.dataN o.dataC] 27))).later ((Below.refl _ _).alloc (Nat.le_refl _) (.cells #[.int .i64 0, .int .i64 0, .slice none 0 0, .slice none 0 0] 34)))
  have HP := Lib.hid (HP0.later ((Below.refl _ _).alloc (Nat.le_refl _) (.cells #[.int .i64 0, .int .i64 0, .slice none 0 0, .slice none 0 0] 34)))
  have HB := Lib.hid HB0
  have HG := Lib.hid (show goodDisk _ y from good_of_rd (rdDisk_below (goodDisk_rd g) hb0 (Nat.le_refl _)) (goodDisk_ok g))
  have HX := Lib.hid (show goodFsOp _ o from goodFsOp_below go hb0 (Nat.le_refl _))
  have HRD := Lib.hid (goodDisk_rd g)
  have HST := Lib.hid (goodDisk_str g)
  have HSO : Hid (strFsOp o) := Lib.hid ⟨go.2.1, go.2.2.1⟩
  have HBU := Lib.hid (bulkDisk_dat (goodDisk_rd g))
  have HOL : Hid (o.data.length = o.dataN) := Lib.hid go.2.2.2.1.len
  have HLF : Hid ((datDisk y).2.2.1.length = y.filesN) := Lib.hid (by show (y.files.map datFile).length = _; rw [List.length_map]; exact g.2.2.1.1.len)
  have HLW : Hid ((datDisk y).2.2.2.length = y.waitN) := Lib.hid (by show (y.wait.map datFsOp).length = _; rw [List.length_map]; exact g.2.2.2.1.len)
  have n1 := filesN_le hn
  have n2 := waitN_le hn
  have hon : o.dataN ≤ 1048576 := by unfold bulkFsOp at hnn; omega
  have HNN : Hid (bulkDisk y + (o.name.size + o.dst.size + o.data.length) ≤ 1048576) := Lib.hid (by rw [HOL.out]; unfold bulkFsOp at hnn; omega)
  have hz0 : w.heap.size + 3 = (((w.alloc (.cells #[.int .i64 y.room, .int .i64 y.fuse, .slice y.filesA y.filesN y.filesC, .slice y.waitA y.waitN y.waitC] 34)).alloc (.cells #[.int .i64 o.kind, .string o.name, .string o.dst, .slice o.dataA o.dataN o.dataC] 27)).alloc (.cells #[.int .i64 0, .int .i64 0, .slice none 0 0, .slice none 0 0] 34)).heap.size := by simp
  obtain ⟨i0, hi, hz0', hz1, hz2⟩ := info_parts infoFsOp
  obtain ⟨i1, ji, jz0, jz1, jz2⟩ := info_parts infoByte
  clear HA0 HP0 HB0 g go hnn
  go_enter Try.func33, Try.ntmps33
  go_wp2_with fail
  generalize ((w.alloc (.cells #[.int .i64 y.room, .int .i64 y.fuse, .slice y.filesA y.filesN y.filesC, .slice y.waitA y.waitN y.waitC] 34)).alloc (.cells #[.int .i64 o.kind, .string o.name, .string o.dst, .slice o.dataA o.dataN o.dataC] 27)).alloc (.cells #[.int .i64 0, .int .i64 0, .slice none 0 0, .slice none 0 0] 34) = W0 at *
  refine (diskOk_spec_k y _ rfl _ HG.out hn).mono ?_
  rintro e w1 ⟨rfl, hb1⟩
  have BB1 := hb0.trans (hb1.mono hb0.size)
  have HA1 := Lib.hid (HA.out.later hb1)
  have HP1 := Lib.hid (HP.out.later hb1)
  have HB1 := Lib.hid (HB.out.later hb1)
  have HG1 := Lib.hid (goodDisk_below HG.out hb1 (Nat.le_refl _))
  have HX1 := Lib.hid (goodFsOp_below HX.out hb1 (Nat.le_refl _))
  have hs1 : w.heap.size + 3 ≤ w1.heap.size := by have := hb1.size; omega
  clear HA HP HB HG HX hb1 hb0
  cases hq : diskB (datDisk y).1 (datDisk y).2.1 (datDisk y).2.2.1 (datDisk y).2.2.2 with
  | false =>
    have HE : Hid (doD (datDisk y) (datFsOp o) = (noD, 1)) := Lib.hid (doD_bad (by rw [show okD (datDisk y) = false from hq]; simp))
    clear hq
    obtain ⟨b0, b1, b2, b3, bf⟩ := HB1.out
    have p0 := bf 0 (by omega)
    have p1 := bf 1 (by omega)
    have p2 := bf 2 (by omega)
    have p3 := bf 3 (by omega)
    clear bf
    go_wp2
    refine bodyPost_ret (v := .tuple #[.agg #[.int .i64 0, .int .i64 0, .slice none 0 0, .slice none 0 0], .int .i64 1]) (by simp [results, Try.results33, go_sem, b0, b1, b2, b3]) rfl ?_
    rw [HE.out]
    exact RetDkI.no (BB1.trans ((win_four w1 (w.heap.size + 2) (w.heap.size + 2) (w.heap.size + 3) (Nat.le_refl _) (by omega) (.int .i64 0) (.int .i64 0) (.slice none 0 0) (.slice none 0 0)).below (by omega) BB1.size))
  | true =>
  have HQ : Hid (okD (datDisk y) = true) := Lib.hid hq
  clear hq
  obtain ⟨o0, o1, o2, o3, _⟩ := HP1.out
  go_wp2_with fail
  clear o0 o1 o2 o3
  refine (fsOpOk_spec_k o _ rfl _ HX1.out).mono ?_
  rintro e w2 ⟨rfl, hb2⟩
  have BB2 := BB1.trans (hb2.mono BB1.size)
  have HA2 := Lib.hid (HA1.out.later hb2)
  have HP2 := Lib.hid (HP1.out.later hb2)
  have HB2 := Lib.hid (HB1.out.later hb2)
  have HG2 := Lib.hid (goodDisk_below HG1.out hb2 (Nat.le_refl _))
  have HX2 := Lib.hid (goodFsOp_below HX1.out hb2 (Nat.le_refl _))
  have hs2 : w.heap.size + 3 ≤ w2.heap.size := by have := hb2.size; omega
  clear HA1 HP1 HB1 HG1 HX1 hb2 hs1
  cases hq : opB (datFsOp o).1 (datFsOp o).2.1 (datFsOp o).2.2.1 (datFsOp o).2.2.2.length with
  | false =>
    have HE : Hid (doD (datDisk y) (datFsOp o) = (noD, 1)) := Lib.hid (doD_bad (by rw [show opOk (datFsOp o) = false from hq]; simp))
    clear hq
    obtain ⟨b0, b1, b2, b3, bf⟩ := HB2.out
    have p0 := bf 0 (by omega)
    have p1 := bf 1 (by omega)
    have p2 := bf 2 (by omega)
    have p3 := bf 3 (by omega)
    clear bf
    go_wp2
    refine bodyPost_ret (v := .tuple #[.agg #[.int .i64 0, .int .i64 0, .slice none 0 0, .slice none 0 0], .int .i64 1]) (by simp [results, Try.results33, go_sem, b0, b1, b2, b3]) rfl ?_
    rw [HE.out]
    exact RetDkI.no (BB2.trans ((win_four w2 (w.heap.size + 2) (w.heap.size + 2) (w.heap.size + 3) (Nat.le_refl _) (by omega) (.int .i64 0) (.int .i64 0) (.slice none 0 0) (.slice none 0 0)).below (by omega) BB2.size))
  | true =>
  have HOK : Hid (opOk (datFsOp o) = true) := Lib.hid hq
  clear hq
  obtain ⟨a0, a1, a2, a3, _⟩ := HA2.out
  go_wp2_with fail
  clear a0 a1 a2 a3
  refine (l02Copy_any y _ (goodDisk_rd HG2.out) hn n1 n2).mono ?_
  rintro e w3 ⟨y2, rfl, hd, ho, hb3⟩
  obtain ⟨room2, fuse2, fA, fN, fC, fs, qA, qN, qC, qs⟩ := y2
  have HD2 := Lib.hid hd
  have hfe : fuse2 = y.fuse := congrArg (fun D : DskD => D.2.1) hd
  have HFE := Lib.hid hfe
  have HBY : Hid (bulkDisk (⟨room2, fuse2, fA, fN, fC, fs, qA, qN, qC, qs⟩ : DiskR) = bulkDisk y) := Lib.hid (by rw [bulkDisk_dat ho.rd, hd, ← HBU.out])
  have hal := (Below.refl w3.heap.size w3).alloc (Nat.le_refl _) (.cells #[.int .i64 room2, .int .i64 fuse2, .slice fA fN fC, .slice qA qN qC] 34)
  have BB3 := (BB2.trans (hb3.mono BB2.size)).trans (hal.mono (BB2.trans (hb3.mono BB2.size)).size)
  have HA3 := Lib.hid ((HA2.out.later hb3).later hal)
  have HP3 := Lib.hid ((HP2.out.later hb3).later hal)
  have HB3 := Lib.hid ((HB2.out.later hb3).later hal)
  have HC3 := Lib.hid (OutC.mk0 w3 (.int .i64 room2) (.int .i64 fuse2) (.slice fA fN fC) (.slice qA qN qC) 34)
  have HG3 := Lib.hid (goodDisk_below (goodDisk_below HG2.out hb3 (Nat.le_refl _)) hal (Nat.le_refl _))
  have HX3 := Lib.hid (goodFsOp_below (goodFsOp_below HX2.out hb3 (Nat.le_refl _)) hal (Nat.le_refl _))
  have HO3 := Lib.hid (ho.below hal)
  have hs3 : w2.heap.size ≤ w3.heap.size := hb3.size
  have hs4 : w3.heap.size < (w3.alloc (.cells #[.int .i64 room2, .int .i64 fuse2, .slice fA fN fC, .slice qA qN qC] 34)).heap.size := by simp
  have HSR := Lib.hid (seen_room HQ.out)
  obtain ⟨r1, r2, r3, r4, r5, r6, r7⟩ : (sizeF (seenD (datDisk y)) : Int) ≤ y.room ∧ 0 ≤ y.room ∧ y.room ≤ 200000 ∧ -1 ≤ y.fuse ∧ y.fuse ≤ 2000 ∧ y.filesN ≤ 12 ∧ y.waitN ≤ 60 := by
    have h := HSR.out
    rw [HLF.out, HLW.out] at h
    exact h
  have hqn : qN ≤ 60 := by
    have e1 := congrArg (fun D : DskD => D.2.2.2.length) hd
    have e2 : (qs.map datFsOp).length = (datDisk y).2.2.2.length := e1
    rw [List.length_map, HLW.out] at e2
    have e3 : qs.length = qN := ho.rd.2.1.len
    omega
  have hqc : qN ≤ qC ∧ qC ≤ maxLen := ⟨ho.rd.2.1.le, ho.rd.2.1.max⟩
  unfold maxLen at hqc
  rw [← hfe] at r4 r5
  clear hd ho hb3 hfe
  obtain ⟨a0, a1, a2, a3, _⟩ := HA3.out
  clear HA2 HP2 HB2 HX2 HG2
  simp only at HC3 HO3 HBY hal BB3 ⊢
  go_wp2_with fail
  generalize w3.alloc (.cells #[.int .i64 room2, .int .i64 fuse2, .slice fA fN fC, .slice qA qN qC] 34) = W3 at *
  clear a0 a1 a2 a3
  refine (seen_any y _ HG3.out hn).mono ?_
  rintro e w4 ⟨q, rfl, hdq, hrq, hb4, hfq⟩
  have BB4 := BB3.trans (hb4.mono BB3.size)
  have HA4 := Lib.hid (HA3.out.later hb4)
  have HP4 := Lib.hid (HP3.out.later hb4)
  have HB4 := Lib.hid (HB3.out.later hb4)
  have HC4 := Lib.hid (HC3.out.later hb4)
  have HO4 := Lib.hid (HO3.out.below hb4)
  have HX4 := Lib.hid (goodFsOp_below HX3.out hb4 (Nat.le_refl _))
  have HQ4 := Lib.hid hrq
  have HDQ := Lib.hid hdq
  have HFQ := Lib.hid hfq
  have hs5 : W3.heap.size ≤ w4.heap.size := hb4.size
  clear HA3 HP3 HB3 HC3 HO3 HX3 HG3 hrq hdq hfq hb4 HSR
  by_cases hf : fuse2 = 0
  · have HE : Hid (doD (datDisk y) (datFsOp o) = (datDisk y, 2)) := Lib.hid (doD_two HQ.out HOK.out (by show y.fuse = 0; rw [← HFE.out]; exact hf))
    have hfy : y.fuse = 0 := by rw [← HFE.out]; exact hf
    obtain ⟨a0, a1, a2, a3, _⟩ := HA4.out
    clear hf
    obtain ⟨c0, c1, c2, c3, _⟩ := HC4.out
    obtain ⟨b0, b1, b2, b3, bf⟩ := HB4.out
    have p0 := bf 0 (by omega)
    have p1 := bf 1 (by omega)
    have p2 := bf 2 (by omega)
    have p3 := bf 3 (by omega)
    clear bf
    go_wp2
    refine bodyPost_ret (v := .tuple #[.agg #[.int .i64 room2, .int .i64 fuse2, .slice fA fN fC, .slice qA qN qC], .int .i64 2]) (by simp [results, Try.results33, go_sem, b0, b1, b2, b3]) rfl ?_
    have hw9 := win_four w4 (w.heap.size + 2) (w.heap.size + 2) (w.heap.size + 3) (Nat.le_refl _) (by omega) (.int .i64 room2) (.int .i64 fuse2) (.slice fA fN fC) (.slice qA qN qC)
    have h9 := HO4.out.win hw9 (Or.inl hs2)
    exact RetDkI.same HE.out HD2.out (h9.lo_le (lo' := w.heap.size) (by omega)).whole (by rw [HBY.out]; exact hn) (BB4.trans (hw9.below (by omega) BB4.size))
  have HF0 : Hid (¬ (datDisk y).2.1 = 0) := Lib.hid (fun h => hf (by rw [HFE.out]; exact h))
  have hfy : ¬ y.fuse = 0 := by rw [← HFE.out]; exact hf
  have hfy2 : (y.fuse == 0) = false := by simpa using hfy
  obtain ⟨a0, a1, a2, a3, _⟩ := HA4.out
  obtain ⟨o0, o1, o2, o3, _⟩ := HP4.out
  go_wp2_with fail
  clear a0 a1 a2 a3 o0 o1 o2 o3 hfy hfy2
  refine (l02Fits_any q o _ HQ4.out).mono ?_
  rintro e w5 ⟨rfl, hb5⟩
  have HQ5 := Lib.hid (rdFileS_below HQ4.out hb5 (Nat.le_refl _))
  rw [HDQ.out]
  have BB5 := BB4.trans (hb5.mono BB4.size)
  have HA5 := Lib.hid (HA4.out.later hb5)
  have HP5 := Lib.hid (HP4.out.later hb5)
  have HB5 := Lib.hid (HB4.out.later hb5)
  have HC5 := Lib.hid (HC4.out.later hb5)
  have HO5 := Lib.hid (HO4.out.below hb5)
  have HX5 := Lib.hid (goodFsOp_below HX4.out hb5 (Nat.le_refl _))
  have hs6 : W3.heap.size ≤ w5.heap.size := by have := hb5.size; omega
  clear HA4 HP4 HB4 HC4 HO4 HX4 hb5
  cases hft : fitsB (seenD (datDisk y)) (datFsOp o) with
  | false =>
    have HE : Hid (doD (datDisk y) (datFsOp o) = (datDisk y, 3)) := Lib.hid (doD_three HQ.out HOK.out HF0.out hft)
    clear hft
    obtain ⟨c0, c1, c2, c3, _⟩ := HC5.out
    obtain ⟨b0, b1, b2, b3, bf⟩ := HB5.out
    have p0 := bf 0 (by omega)
    have p1 := bf 1 (by omega)
    have p2 := bf 2 (by omega)
    have p3 := bf 3 (by omega)
    clear bf
    go_wp2
    refine bodyPost_ret (v := .tuple #[.agg #[.int .i64 room2, .int .i64 fuse2, .slice fA fN fC, .slice qA qN qC], .int .i64 3]) (by simp [results, Try.results33, go_sem, b0, b1, b2, b3]) rfl ?_
    have hw9 := win_four w5 (w.heap.size + 2) (w.heap.size + 2) (w.heap.size + 3) (Nat.le_refl _) (by omega) (.int .i64 room2) (.int .i64 fuse2) (.slice fA fN fC) (.slice qA qN qC)
    have h9 := HO5.out.win hw9 (Or.inl hs2)
    exact RetDkI.same HE.out HD2.out (h9.lo_le (lo' := w.heap.size) (by omega)).whole (by rw [HBY.out]; exact hn) (BB5.trans (hw9.below (by omega) BB5.size))
  | true =>
  have HFT := Lib.hid hft
  clear hft
  by_cases h60 : 60 ≤ y.waitN
  · have HE : Hid (doD (datDisk y) (datFsOp o) = (datDisk y, 4)) := Lib.hid (doD_four HQ.out HOK.out HF0.out HFT.out (by rw [HLW.out]; exact h60))
    obtain ⟨a0, a1, a2, a3, _⟩ := HA5.out
    have hw60 : (y.waitN : Int) = 60 := by omega
    clear h60
    obtain ⟨c0, c1, c2, c3, _⟩ := HC5.out
    obtain ⟨b0, b1, b2, b3, bf⟩ := HB5.out
    have p0 := bf 0 (by omega)
    have p1 := bf 1 (by omega)
    have p2 := bf 2 (by omega)
    have p3 := bf 3 (by omega)
    clear bf
    go_wp2
    refine bodyPost_ret (v := .tuple #[.agg #[.int .i64 room2, .int .i64 fuse2, .slice fA fN fC, .slice qA qN qC], .int .i64 4]) (by simp [results, Try.results33, go_sem, b0, b1, b2, b3]) rfl ?_
    have hw9 := win_four w5 (w.heap.size + 2) (w.heap.size + 2) (w.heap.size + 3) (Nat.le_refl _) (by omega) (.int .i64 room2) (.int .i64 fuse2) (.slice fA fN fC) (.slice qA qN qC)
    have h9 := HO5.out.win hw9 (Or.inl hs2)
    exact RetDkI.same HE.out HD2.out (h9.lo_le (lo' := w.heap.size) (by omega)).whole (by rw [HBY.out]; exact hn) (BB5.trans (hw9.below (by omega) BB5.size))
  have h60n : (datDisk y).2.2.2.length < 60 := by rw [HLW.out]; omega
  have H60 := Lib.hid h60n
  have hw60 : ¬ (y.waitN : Int) = 60 := by omega
  have hw61 : ((y.waitN : Int) == 60) = false := by simpa using hw60
  have hw62 : ¬ (60 : Int) ≤ (y.waitN : Int) := by omega
  obtain ⟨L, hL⟩ : ∃ L : Nat, y.room - (sizeF (seenD (datDisk y)) : Int) = (L : Int) := Int.eq_ofNat_of_zero_le (by omega)
  have HL : Hid ((datDisk y).1 - (sizeF (seenD (datDisk y)) : Int) = (L : Int)) := Lib.hid hL
  have HLL := Lib.hid hL
  clear hL h60 h60n
  obtain ⟨a0, a1, a2, a3, _⟩ := HA5.out
  obtain ⟨o0, o1, o2, o3, _⟩ := HP5.out
  obtain ⟨c0, c1, c2, c3, _⟩ := HC5.out
  by_cases hfu : 0 < fuse2
  case pos =>
    have hbn : burnI fuse2 = fuse2 - 1 := by unfold burnI; rw [if_pos hfu]
    have HCV := Lib.hid (show OutC w3.heap.size (.int .i64 room2) (.int .i64 (burnI fuse2)) (.slice fA fN fC) (.slice qA qN qC) _ from by rw [hbn]; exact HC5.out.set1 (.int .i64 (fuse2 - 1)))
    clear hbn
    have HAV := Lib.hid (HA5.out.win (Win.set (lo := w3.heap.size) (hi := w3.heap.size + 1) w5 w3.heap.size 1 (.int .i64 (fuse2 - 1)) (Nat.le_refl _) (Nat.lt_succ_self _)) (Or.inl (by omega)))
    have HPV := Lib.hid (HP5.out.win (Win.set (lo := w3.heap.size) (hi := w3.heap.size + 1) w5 w3.heap.size 1 (.int .i64 (fuse2 - 1)) (Nat.le_refl _) (Nat.lt_succ_self _)) (Or.inl (by omega)))
    have HBV := Lib.hid (HB5.out.win (Win.set (lo := w3.heap.size) (hi := w3.heap.size + 1) w5 w3.heap.size 1 (.int .i64 (fuse2 - 1)) (Nat.le_refl _) (Nat.lt_succ_self _)) (Or.inl (by omega)))
    have HOVV := Lib.hid (HO5.out.win (Win.set (lo := w3.heap.size) (hi := w3.heap.size + 1) w5 w3.heap.size 1 (.int .i64 (fuse2 - 1)) (Nat.le_refl _) (Nat.lt_succ_self _)) (Or.inr (Nat.le_refl _)))
    have BBV := BB5.trans (((Win.set (lo := w3.heap.size) (hi := w3.heap.size + 1) w5 w3.heap.size 1 (.int .i64 (fuse2 - 1)) (Nat.le_refl _) (Nat.lt_succ_self _))).below (by omega) BB5.size)
    have hsV : (w5.setCell ⟨w3.heap.size, 1, none⟩ (.int .i64 (fuse2 - 1))).heap.size = w5.heap.size := size_set _ _ _
    have HXV : Hid (Rd (encI .u8) 1 (w5.setCell ⟨w3.heap.size, 1, none⟩ (.int .i64 (fuse2 - 1))) o.dataA o.dataN o.dataC o.data) := Lib.hid (rd_poke HX5.out.2.2.2.1 c1 (fun z h => by cases h))
    have HQV : Hid (rdFileS (w5.setCell ⟨w3.heap.size, 1, none⟩ (.int .i64 (fuse2 - 1))) q) := Lib.hid (rdFileS_poke HQ5.out HFQ.out hs4 c1 (fun z h => by cases h))
    have hlit := (Below.refl (w5.setCell ⟨w3.heap.size, 1, none⟩ (.int .i64 (fuse2 - 1))).heap.size (w5.setCell ⟨w3.heap.size, 1, none⟩ (.int .i64 (fuse2 - 1)))).alloc (Nat.le_refl _) (.cells #[] 5)
    have HLIT : Hid (((w5.setCell ⟨w3.heap.size, 1, none⟩ (.int .i64 (fuse2 - 1))).alloc (.cells #[] 5)).ownsRow w5.heap.size 5 1 (.slice (some ⟨w5.heap.size, 0, none⟩) 0 0) 0 (([] : List Int).map (.int .u8))) := Lib.hid (by rw [← hsV]; exact World.ownsRow_lit _ #[] 0 (Nat.le_refl _) (by unfold maxLen; omega) (by simp))
    have HXT := Lib.hid (Rd.below HXV.out hlit (Nat.le_refl _))
    have hxl : o.data.length = o.dataN := HOL.out
    have hxc := HXT.out.le
    have hxm := HXT.out.max
    unfold maxLen at hxm
    obtain ⟨q0, q1, q2, q3, _⟩ := HPV.out
    have q3' := cell_later hlit q3
    go_wp2_with (at_builtin; refine app_any rfl _ _ 22 rfl w5.heap.size 5 Try.underlying22 ji jz0 jz1 jz2 rfl (by decide) (some ⟨w5.heap.size, 0, none⟩) 0 0 [] rfl HLIT.out o.dataA o.dataN o.dataC (o.data.map (.int .u8)) rfl ?c1a HXT.out.news HXT.out.none (int_bytes o.data) ?c2a ?c3a (by simp) ?_)
    case c1a => rw [List.length_map, hxl]; omega
    case c2a => unfold maxLen; omega
    case c3a => omega
    intro A4 C4 w6 ho6 hb6
    have ho6' : w6.ownsRow w5.heap.size 5 1 (.slice A4 o.dataN C4) o.dataN (o.data.map (.int .u8)) := by simpa using ho6
    obtain ⟨_, _, hvv, hAC, hCm⟩ := own_shape ho6'
    cases hvv
    have hbV6 := hlit.trans (by simpa using hb6)
    have BB6 := BBV.trans (hbV6.mono BBV.size)
    have HA6 := Lib.hid (HAV.out.later hbV6)
    have HP6 := Lib.hid (HPV.out.later hbV6)
    have HB6 := Lib.hid (HBV.out.later hbV6)
    have HC6 := Lib.hid (HCV.out.later hbV6)
    have HO6 := Lib.hid (HOVV.out.below hbV6)
    have HQ6 := Lib.hid (rdFileS_below HQV.out hbV6 (Nat.le_refl _))
    have hs7 : w5.heap.size ≤ w6.heap.size := by have := hbV6.size; omega
    clear ho6 hb6 hbV6 hlit HAV HPV HBV HOVV HXV HQV HLIT HXT q0 q1 q2 q3 q3' hxl hxc hxm a0 a1 a2 a3 o0 o1 o2 o3 c0 c1 c2 c3
    obtain ⟨q0, q1, q2, q3, qf⟩ := HP6.out
    have qf3 := qf 3 (by omega)
    have hw7 := Win.set (lo := w.heap.size + 1) (hi := w.heap.size + 2) w6 (w.heap.size + 1) 3 (.slice A4 o.dataN C4) (Nat.le_refl _) (by omega)
    have HA7 := Lib.hid (HA6.out.win hw7 (Or.inl (by omega)))
    have HP7 := Lib.hid (HP6.out.set3 (.slice A4 o.dataN C4))
    have HB7 := Lib.hid (HB6.out.win hw7 (Or.inr (by omega)))
    have HC7 := Lib.hid (HC6.out.win hw7 (Or.inr (by omega)))
    have HO7 := Lib.hid (HO6.out.win hw7 (Or.inl (by omega)))
    have HQ7 := Lib.hid (rdFileS_poke (o := 3) (v := .slice A4 o.dataN C4) HQ6.out HFQ.out (show w.heap.size + 1 < W3.heap.size by omega) q3 (fun z h => by cases h))
    have BB7 := BB6.trans (hw7.below (by omega) BB6.size)
    have HW7 : Hid (OwnS (encI .u8) 1 5 w5.heap.size w6.heap.size (w6.setCell ⟨w.heap.size + 1, 3, none⟩ (.slice A4 o.dataN C4)) A4 o.dataN C4 o.data) := Lib.hid ((OwnS.of (by rw [flat_encI]; exact ho6') HOL.out (by omega)).win hw7 (Or.inl (by omega)))
    have hs8 : w6.heap.size = (w6.setCell ⟨w.heap.size + 1, 3, none⟩ (.slice A4 o.dataN C4)).heap.size := (size_set _ _ _).symm
    obtain ⟨a0, _, _, _, _⟩ := HA7.out
    clear HA6 HB6 HC6 HO6 HQ6 ho6' hw7 qf
    go_wp2_with fail
    clear q0 q1 q2 q3 qf3 HP6
    generalize w6.setCell ⟨w.heap.size + 1, 3, none⟩ (.slice A4 o.dataN C4) = w7 at *
    go_region_held3 (fun w' => w'.cell? ⟨w.heap.size, 0, none⟩ = some (.int .i64 y.room) ∧ Below w7.heap.size w7 w')
      (first | exact keepd1 (by assumption) | exact keep1 (by assumption) (Nat.le_refl _) (by assumption) | exact ⟨a0, (Below.refl _ _).drew⟩)
      (first | (go_at_call 48; refine (l02Bytes_any q _ (rdFileS_below HQ7.out (tail1 (by assumption)) (Nat.le_refl _)) (by rw [HDQ.out]; omega)).mono ?_; rintro e w8 ⟨rfl, hb8⟩))
    obtain ⟨l0, hbw⟩ : w8.cell? ⟨w.heap.size, 0, none⟩ = some (.int .i64 y.room) ∧ Below w7.heap.size w7 w8 := by assumption
    have BB8 := BB7.trans (hbw.mono BB7.size)
    have HP8 := Lib.hid (HP7.out.later hbw)
    have HB8 := Lib.hid (HB7.out.later hbw)
    have HC8 := Lib.hid (HC7.out.later hbw)
    have HO8 := Lib.hid (HO7.out.below hbw)
    have HW8 := Lib.hid (HW7.out.below hbw)
    have hs9 : w6.heap.size ≤ w8.heap.size := by have := hbw.size; omega
    clear l0 hb8 a0 HA7 HP7 HB7 HC7 HO7 HW7 hbw
    rw [HDQ.out, HLL.out, show IntKind.i64.wrap (L : Int) = (L : Int) from IntWalk.i64_in _ (by have := HLL.out; omega)]
    have hL2 : L ≤ 200000 := by have := HLL.out; omega
    by_cases hk : o.kind = 2
    case pos =>
      have HK := Lib.hid hk
      replace HP8 : Hid (OutC (w.heap.size + 1) (.int .i64 2) (.string o.name) (.string o.dst) (.slice A4 o.dataN C4) w8) := Lib.hid (by rw [← hk]; exact HP8.out)
      by_cases hlt : (L : Int) < (o.dataN : Int)
      case pos =>
        by_cases h0 : 0 < L
        case pos =>
          obtain ⟨q0, q1, q2, q3, qf⟩ := HP8.out
          have qf3 := qf 3 (by omega)
          clear qf
          have hw9' := Win.set (lo := w.heap.size + 1) (hi := w.heap.size + 2) w8 (w.heap.size + 1) 3 (.slice A4 L C4) (Nat.le_refl _) (by omega)
          have HP9 := Lib.hid (HP8.out.set3 (.slice A4 L C4))
          have HB9 := Lib.hid (HB8.out.win hw9' (Or.inr (by omega)))
          have HC9 := Lib.hid (HC8.out.win hw9' (Or.inr (by omega)))
          have HO9 := Lib.hid (HO8.out.win hw9' (Or.inl (by omega)))
          have HW9 := Lib.hid ((HW8.out.short (m := L) (by omega) (by omega)).win hw9' (Or.inl (by omega)))
          have BB9 := BB8.trans (hw9'.below (by omega) BB8.size)
          clear hw9'
          have hLC : (L : Int) ≤ (C4 : Int) := by omega
          have hL0 : ¬ (L : Int) < 0 := by omega
          have HE : Hid (doD (datDisk y) (datFsOp o) = (((datDisk y).1, burnI (datDisk y).2.1, (datDisk y).2.2.1, (datDisk y).2.2.2 ++ [datFsOp ⟨2, o.name, o.dst, A4, L, C4, o.data.take L⟩]), 5)) := Lib.hid (by
            rw [doD_part HQ.out HOK.out HF0.out HFT.out H60.out HL.out HK.out (by show L < o.data.length; rw [HOL.out]; omega) h0]
            rw [show (datFsOp o).1 = 2 from HK.out]
            rfl)
          obtain ⟨⟨m, hm1, hm2, hof, hoo⟩, htop⟩ := HO9.out
          have hoo' : OwnFsOpS m w3.heap.size (w8.setCell ⟨w.heap.size + 1, 3, none⟩ (.slice A4 L C4)) ⟨qA, qN, qC, qs⟩ := hoo
          have hof' : OwnFileS w2.heap.size m (w8.setCell ⟨w.heap.size + 1, 3, none⟩ (.slice A4 L C4)) ⟨fA, fN, fC, fs⟩ := hof
          have HOO := Lib.hid hoo'
          have HOF := Lib.hid hof'
          have hlv := (Below.refl (w8.setCell ⟨w.heap.size + 1, 3, none⟩ (.slice A4 L C4)).heap.size (w8.setCell ⟨w.heap.size + 1, 3, none⟩ (.slice A4 L C4))).alloc (Nat.le_refl _) (.cells #[.int .i64 2, .string o.name, .string o.dst, .slice A4 L C4] 27)
          have HOV := Lib.hid (hoo'.below hlv)
          have hnews := news_four (w8.setCell ⟨w.heap.size + 1, 3, none⟩ (.slice A4 L C4)) (.int .i64 2) (.string o.name) (.string o.dst) (.slice A4 L C4) 27
          rw [size_set] at hnews
          have hsv : m ≤ ((w8.setCell ⟨w.heap.size + 1, 3, none⟩ (.slice A4 L C4)).alloc (.cells #[.int .i64 2, .string o.name, .string o.dst, .slice A4 L C4] 27)).heap.size := by have := HC9.out.lt; simp; omega
          obtain ⟨c0, c1, c2, c3, cf⟩ := HC9.out
          obtain ⟨o0, o1, o2, o3, _⟩ := HP9.out
          clear hoo hof hoo' hof' hlv
          go_wp2_with (at_builtin; refine wpList_append_lies _ (by rfl) _ _ _ (by rfl) m 27 i0 _ 4 64 Try.underlying32 hi hz0' hz1 hz2 rfl (by decide) (.slice qA qN qC) qN (qs.flatMap encFsOp) (by rfl) HOV.out.nest.row.own ⟨w8.heap.size, 0, none⟩ 1 1 [.int .i64 2, .string o.name, .string o.dst, .slice A4 L C4] (by rfl) (by rfl) hnews (one_fsOp ⟨2, o.name, o.dst, A4, L, C4, []⟩) (by decide) (by unfold maxLen; omega) (by omega) hsv _ rfl ?_)
          intro g9 C9 wz ho9 hg9 hor9 hlt9
          clear c0 c1 c2 c3 cf o0 o1 o2 o3 hnews hsv hlt9
          have hop := opPush (X := w3.heap.size) (H := w3.heap.size) (B := w5.heap.size) (x := ⟨2, o.name, o.dst, A4, L, C4, o.data.take L⟩) HOO.out HC9.out (Nat.le_refl _) (by omega) hm2 (HW9.out.grow (by rw [size_set]; omega) (Nat.le_refl _)) ho9 hg9 (by simpa using hor9) (by omega)
          obtain ⟨u1, u2, u3, u4, u5⟩ := hop
          have HU1 := Lib.hid u1
          have HU2 := Lib.hid u2
          have HU4 := Lib.hid u4
          have HU5 := Lib.hid (u5 _ _ HOF.out)
          have HBZ := Lib.hid (HB9.out.below u3 (by omega))
          have hsz9 : (w8.setCell ⟨w.heap.size + 1, 3, none⟩ (.slice A4 L C4)).heap.size ≤ wz.heap.size := u3.size
          clear u1 u2 u3 u4 u5 ho9 hg9 hor9
          obtain ⟨c0, c1, c2, c3, cf⟩ := HU2.out
          have f3 := cf 3 (by omega)
          obtain ⟨b0, b1, b2, b3, bf⟩ := HBZ.out
          have p0 := bf 0 (by omega)
          have p1 := bf 1 (by omega)
          have p2 := bf 2 (by omega)
          have p3 := bf 3 (by omega)
          clear bf cf
          go_wp2
          refine bodyPost_ret (v := .tuple #[.agg #[.int .i64 room2, .int .i64 (burnI fuse2), .slice fA fN fC, .slice (some ⟨g9, 0, none⟩) (qN + 1) C9], .int .i64 5]) (by simp [results, Try.results33, go_sem, b0, b1, b2, b3]) rfl ?_
          have hw9 := win_four (wz.setCell ⟨w3.heap.size, 3, none⟩ (.slice (some ⟨g9, 0, none⟩) (qN + 1) C9)) (w.heap.size + 2) (w.heap.size + 2) (w.heap.size + 3) (Nat.le_refl _) (by omega) (.int .i64 room2) (.int .i64 (burnI fuse2)) (.slice fA fN fC) (.slice (some ⟨g9, 0, none⟩) (qN + 1) C9)
          have h9 : OwnDisk w2.heap.size _ _ ⟨room2, burnI fuse2, fA, fN, fC, fs, some ⟨g9, 0, none⟩, qN + 1, C9, qs ++ [⟨2, o.name, o.dst, A4, L, C4, o.data.take L⟩]⟩ := ⟨⟨m, hm1, by rw [size_set]; have := HU2.out.lt; omega, HU5.out, HU1.out⟩, Nat.le_refl _⟩
          have h10 := h9.win hw9 (Or.inl hs2)
          have hb9 := BB9.trans (HU4.out.mono (by omega))
          refine RetDkI.more (y2 := (⟨room2, fuse2, fA, fN, fC, fs, qA, qN, qC, qs⟩ : DiskR)) (x := ⟨2, o.name, o.dst, A4, L, C4, o.data.take L⟩) HE.out HD2.out (h10.lo_le (lo' := w.heap.size) (by omega)).whole ?_ HRD.out HBY.out (hb9.trans (hw9.below (by omega) hb9.size))
          rw [HBY.out]
          have h12 := HNN.out
          show bulkDisk y + (o.name.size + o.dst.size + (o.data.take L).length) ≤ 1048576
          rw [List.length_take]
          omega
        case neg =>
          obtain ⟨q0, q1, q2, q3, qf⟩ := HP8.out
          have qf3 := qf 3 (by omega)
          clear qf
          have hw9' := Win.set (lo := w.heap.size + 1) (hi := w.heap.size + 2) w8 (w.heap.size + 1) 3 (.slice A4 L C4) (Nat.le_refl _) (by omega)
          have HP9 := Lib.hid (HP8.out.set3 (.slice A4 L C4))
          have HB9 := Lib.hid (HB8.out.win hw9' (Or.inr (by omega)))
          have HC9 := Lib.hid (HC8.out.win hw9' (Or.inr (by omega)))
          have HO9 := Lib.hid (HO8.out.win hw9' (Or.inl (by omega)))
          have HW9 := Lib.hid ((HW8.out.short (m := L) (by omega) (by omega)).win hw9' (Or.inl (by omega)))
          have BB9 := BB8.trans (hw9'.below (by omega) BB8.size)
          clear hw9'
          have hLC : (L : Int) ≤ (C4 : Int) := by omega
          have hL0 : ¬ (L : Int) < 0 := by omega
          have HE : Hid (doD (datDisk y) (datFsOp o) = (((datDisk y).1, burnI (datDisk y).2.1, (datDisk y).2.2.1, (datDisk y).2.2.2), 5)) := Lib.hid (doD_none HQ.out HOK.out HF0.out HFT.out H60.out HL.out HK.out (by show L < o.data.length; rw [HOL.out]; omega) (by omega))
          have h00 : L = 0 := by omega
          subst h00
          obtain ⟨c0, c1, c2, c3, _⟩ := HC9.out
          obtain ⟨b0, b1, b2, b3, bf⟩ := HB9.out
          have p0 := bf 0 (by omega)
          have p1 := bf 1 (by omega)
          have p2 := bf 2 (by omega)
          have p3 := bf 3 (by omega)
          clear bf
          go_wp2
          refine bodyPost_ret (v := .tuple #[.agg #[.int .i64 room2, .int .i64 (burnI fuse2), .slice fA fN fC, .slice qA qN qC], .int .i64 5]) (by simp [results, Try.results33, go_sem, b0, b1, b2, b3]) rfl ?_
          have hw9 := win_four (w8.setCell ⟨w.heap.size + 1, 3, none⟩ (.slice A4 0 C4)) (w.heap.size + 2) (w.heap.size + 2) (w.heap.size + 3) (Nat.le_refl _) (by omega) (.int .i64 room2) (.int .i64 (burnI fuse2)) (.slice fA fN fC) (.slice qA qN qC)
          have h9 := ((HO9.out.win hw9 (Or.inl hs2)).lo_le (lo' := w.heap.size) (by omega)).whole
          exact RetDkI.nil (y2 := (⟨room2, fuse2, fA, fN, fC, fs, qA, qN, qC, qs⟩ : DiskR)) HE.out HD2.out ⟨h9.mid, h9.top⟩ (by rw [HBY.out]; exact hn) (BB9.trans (hw9.below (by omega) BB9.size))
      case neg =>
        have HE : Hid (doD (datDisk y) (datFsOp o) = (((datDisk y).1, burnI (datDisk y).2.1, (datDisk y).2.2.1, (datDisk y).2.2.2 ++ [datFsOp ⟨2, o.name, o.dst, A4, o.dataN, C4, o.data⟩]), 0)) := Lib.hid (by
          rw [doD_all HQ.out HOK.out HF0.out HFT.out H60.out (by rw [HL.out]; show ¬ (o.kind = 2 ∧ (L : Int) < (o.data.length : Int)); rw [HOL.out]; exact fun h => hlt h.2)]
          rw [show datFsOp o = datFsOp ⟨2, o.name, o.dst, A4, o.dataN, C4, o.data⟩ from by unfold datFsOp; rw [HK.out]])
        have hltn : (o.dataN : Int) ≤ (L : Int) := by omega
        clear hlt
        obtain ⟨⟨m, hm1, hm2, hof, hoo⟩, htop⟩ := HO8.out
        have hoo' : OwnFsOpS m w3.heap.size w8 ⟨qA, qN, qC, qs⟩ := hoo
        have hof' : OwnFileS w2.heap.size m w8 ⟨fA, fN, fC, fs⟩ := hof
        have HOO := Lib.hid hoo'
        have HOF := Lib.hid hof'
        have hlv := (Below.refl w8.heap.size w8).alloc (Nat.le_refl _) (.cells #[.int .i64 2, .string o.name, .string o.dst, .slice A4 o.dataN C4] 27)
        have HOV := Lib.hid (hoo'.below hlv)
        have hnews := news_four w8 (.int .i64 2) (.string o.name) (.string o.dst) (.slice A4 o.dataN C4) 27
        have hsv : m ≤ (w8.alloc (.cells #[.int .i64 2, .string o.name, .string o.dst, .slice A4 o.dataN C4] 27)).heap.size := by have := HC8.out.lt; simp; omega
        obtain ⟨c0, c1, c2, c3, cf⟩ := HC8.out
        obtain ⟨o0, o1, o2, o3, _⟩ := HP8.out
        clear hoo hof hoo' hof' hlv
        go_wp2_with (at_builtin; refine wpList_append_lies _ (by rfl) _ _ _ (by rfl) m 27 i0 _ 4 64 Try.underlying32 hi hz0' hz1 hz2 rfl (by decide) (.slice qA qN qC) qN (qs.flatMap encFsOp) (by rfl) HOV.out.nest.row.own ⟨w8.heap.size, 0, none⟩ 1 1 [.int .i64 2, .string o.name, .string o.dst, .slice A4 o.dataN C4] (by rfl) (by rfl) hnews (one_fsOp ⟨2, o.name, o.dst, A4, o.dataN, C4, []⟩) (by decide) (by unfold maxLen; omega) (by omega) hsv _ rfl ?_)
        intro g9 C9 wz ho9 hg9 hor9 hlt9
        clear c0 c1 c2 c3 cf o0 o1 o2 o3 hnews hsv hlt9
        have hop := opPush (X := w3.heap.size) (H := w3.heap.size) (B := w5.heap.size) (x := ⟨2, o.name, o.dst, A4, o.dataN, C4, o.data⟩) HOO.out HC8.out (Nat.le_refl _) (by omega) hm2 (HW8.out.grow (by omega) (Nat.le_refl _)) ho9 hg9 (by simpa using hor9) (by omega)
        obtain ⟨u1, u2, u3, u4, u5⟩ := hop
        have HU1 := Lib.hid u1
        have HU2 := Lib.hid u2
        have HU4 := Lib.hid u4
        have HU5 := Lib.hid (u5 _ _ HOF.out)
        have HBZ := Lib.hid (HB8.out.below u3 (by omega))
        have hsz9 : w8.heap.size ≤ wz.heap.size := u3.size
        clear u1 u2 u3 u4 u5 ho9 hg9 hor9
        obtain ⟨c0, c1, c2, c3, cf⟩ := HU2.out
        have f3 := cf 3 (by omega)
        obtain ⟨b0, b1, b2, b3, bf⟩ := HBZ.out
        have p0 := bf 0 (by omega)
        have p1 := bf 1 (by omega)
        have p2 := bf 2 (by omega)
        have p3 := bf 3 (by omega)
        clear bf cf
        go_wp2
        refine bodyPost_ret (v := .tuple #[.agg #[.int .i64 room2, .int .i64 (burnI fuse2), .slice fA fN fC, .slice (some ⟨g9, 0, none⟩) (qN + 1) C9], .int .i64 0]) (by simp [results, Try.results33, go_sem, b0, b1, b2, b3]) rfl ?_
        have hw9 := win_four (wz.setCell ⟨w3.heap.size, 3, none⟩ (.slice (some ⟨g9, 0, none⟩) (qN + 1) C9)) (w.heap.size + 2) (w.heap.size + 2) (w.heap.size + 3) (Nat.le_refl _) (by omega) (.int .i64 room2) (.int .i64 (burnI fuse2)) (.slice fA fN fC) (.slice (some ⟨g9, 0, none⟩) (qN + 1) C9)
        have h9 : OwnDisk w2.heap.size _ _ ⟨room2, burnI fuse2, fA, fN, fC, fs, some ⟨g9, 0, none⟩, qN + 1, C9, qs ++ [⟨2, o.name, o.dst, A4, o.dataN, C4, o.data⟩]⟩ := ⟨⟨m, hm1, by rw [size_set]; have := HU2.out.lt; omega, HU5.out, HU1.out⟩, Nat.le_refl _⟩
        have h10 := h9.win hw9 (Or.inl hs2)
        have hb9 := BB8.trans (HU4.out.mono (by omega))
        refine RetDkI.more (y2 := (⟨room2, fuse2, fA, fN, fC, fs, qA, qN, qC, qs⟩ : DiskR)) (x := ⟨2, o.name, o.dst, A4, o.dataN, C4, o.data⟩) HE.out HD2.out (h10.lo_le (lo' := w.heap.size) (by omega)).whole ?_ HRD.out HBY.out (hb9.trans (hw9.below (by omega) hb9.size))
        rw [HBY.out]
        exact HNN.out
    case neg =>
      have HE : Hid (doD (datDisk y) (datFsOp o) = (((datDisk y).1, burnI (datDisk y).2.1, (datDisk y).2.2.1, (datDisk y).2.2.2 ++ [datFsOp ⟨o.kind, o.name, o.dst, A4, o.dataN, C4, o.data⟩]), 0)) := Lib.hid (by
        rw [doD_all HQ.out HOK.out HF0.out HFT.out H60.out (fun h => hk h.1)]
        rfl)
      have hk2 : (o.kind == 2) = false := by simpa using hk
      obtain ⟨⟨m, hm1, hm2, hof, hoo⟩, htop⟩ := HO8.out
      have hoo' : OwnFsOpS m w3.heap.size w8 ⟨qA, qN, qC, qs⟩ := hoo
      have hof' : OwnFileS w2.heap.size m w8 ⟨fA, fN, fC, fs⟩ := hof
      have HOO := Lib.hid hoo'
      have HOF := Lib.hid hof'
      have hlv := (Below.refl w8.heap.size w8).alloc (Nat.le_refl _) (.cells #[.int .i64 o.kind, .string o.name, .string o.dst, .slice A4 o.dataN C4] 27)
      have HOV := Lib.hid (hoo'.below hlv)
      have hnews := news_four w8 (.int .i64 o.kind) (.string o.name) (.string o.dst) (.slice A4 o.dataN C4) 27
      have hsv : m ≤ (w8.alloc (.cells #[.int .i64 o.kind, .string o.name, .string o.dst, .slice A4 o.dataN C4] 27)).heap.size := by have := HC8.out.lt; simp; omega
      obtain ⟨c0, c1, c2, c3, cf⟩ := HC8.out
      obtain ⟨o0, o1, o2, o3, _⟩ := HP8.out
      clear hoo hof hoo' hof' hlv
      go_wp2_with (at_builtin; refine wpList_append_lies _ (by rfl) _ _ _ (by rfl) m 27 i0 _ 4 64 Try.underlying32 hi hz0' hz1 hz2 rfl (by decide) (.slice qA qN qC) qN (qs.flatMap encFsOp) (by rfl) HOV.out.nest.row.own ⟨w8.heap.size, 0, none⟩ 1 1 [.int .i64 o.kind, .string o.name, .string o.dst, .slice A4 o.dataN C4] (by rfl) (by rfl) hnews (one_fsOp ⟨o.kind, o.name, o.dst, A4, o.dataN, C4, []⟩) (by decide) (by unfold maxLen; omega) (by omega) hsv _ rfl ?_)
      intro g9 C9 wz ho9 hg9 hor9 hlt9
      clear c0 c1 c2 c3 cf o0 o1 o2 o3 hnews hsv hlt9
      have hop := opPush (X := w3.heap.size) (H := w3.heap.size) (B := w5.heap.size) (x := ⟨o.kind, o.name, o.dst, A4, o.dataN, C4, o.data⟩) HOO.out HC8.out (Nat.le_refl _) (by omega) hm2 (HW8.out.grow (by omega) (Nat.le_refl _)) ho9 hg9 (by simpa using hor9) (by omega)
      obtain ⟨u1, u2, u3, u4, u5⟩ := hop
      have HU1 := Lib.hid u1
      have HU2 := Lib.hid u2
      have HU4 := Lib.hid u4
      have HU5 := Lib.hid (u5 _ _ HOF.out)
      have HBZ := Lib.hid (HB8.out.below u3 (by omega))
      have hsz9 : w8.heap.size ≤ wz.heap.size := u3.size
      clear u1 u2 u3 u4 u5 ho9 hg9 hor9
      obtain ⟨c0, c1, c2, c3, cf⟩ := HU2.out
      have f3 := cf 3 (by omega)
      obtain ⟨b0, b1, b2, b3, bf⟩ := HBZ.out
      have p0 := bf 0 (by omega)
      have p1 := bf 1 (by omega)
      have p2 := bf 2 (by omega)
      have p3 := bf 3 (by omega)
      clear bf cf
      go_wp2
      refine bodyPost_ret (v := .tuple #[.agg #[.int .i64 room2, .int .i64 (burnI fuse2), .slice fA fN fC, .slice (some ⟨g9, 0, none⟩) (qN + 1) C9], .int .i64 0]) (by simp [results, Try.results33, go_sem, b0, b1, b2, b3]) rfl ?_
      have hw9 := win_four (wz.setCell ⟨w3.heap.size, 3, none⟩ (.slice (some ⟨g9, 0, none⟩) (qN + 1) C9)) (w.heap.size + 2) (w.heap.size + 2) (w.heap.size + 3) (Nat.le_refl _) (by omega) (.int .i64 room2) (.int .i64 (burnI fuse2)) (.slice fA fN fC) (.slice (some ⟨g9, 0, none⟩) (qN + 1) C9)
      have h9 : OwnDisk w2.heap.size _ _ ⟨room2, burnI fuse2, fA, fN, fC, fs, some ⟨g9, 0, none⟩, qN + 1, C9, qs ++ [⟨o.kind, o.name, o.dst, A4, o.dataN, C4, o.data⟩]⟩ := ⟨⟨m, hm1, by rw [size_set]; have := HU2.out.lt; omega, HU5.out, HU1.out⟩, Nat.le_refl _⟩
      have h10 := h9.win hw9 (Or.inl hs2)
      have hb9 := BB8.trans (HU4.out.mono (by omega))
      refine RetDkI.more (y2 := (⟨room2, fuse2, fA, fN, fC, fs, qA, qN, qC, qs⟩ : DiskR)) (x := ⟨o.kind, o.name, o.dst, A4, o.dataN, C4, o.data⟩) HE.out HD2.out (h10.lo_le (lo' := w.heap.size) (by omega)).whole ?_ HRD.out HBY.out (hb9.trans (hw9.below (by omega) hb9.size))
      rw [HBY.out]
      exact HNN.out
  case neg =>
    have hbn : burnI fuse2 = fuse2 := by unfold burnI; rw [if_neg hfu]
    have HCV := Lib.hid (show OutC w3.heap.size (.int .i64 room2) (.int .i64 (burnI fuse2)) (.slice fA fN fC) (.slice qA qN qC) w5 from by rw [hbn]; exact HC5.out)
    clear hbn
    have HAV := Lib.hid (HA5.out.win (Win.refl w3.heap.size (w3.heap.size + 1) w5) (Or.inl (by omega)))
    have HPV := Lib.hid (HP5.out.win (Win.refl w3.heap.size (w3.heap.size + 1) w5) (Or.inl (by omega)))
    have HBV := Lib.hid (HB5.out.win (Win.refl w3.heap.size (w3.heap.size + 1) w5) (Or.inl (by omega)))
    have HOVV := Lib.hid (HO5.out.win (Win.refl w3.heap.size (w3.heap.size + 1) w5) (Or.inr (Nat.le_refl _)))
    have BBV := BB5.trans (((Win.refl w3.heap.size (w3.heap.size + 1) w5)).below (by omega) BB5.size)
    have hsV : w5.heap.size = w5.heap.size := rfl
    have HXV : Hid (Rd (encI .u8) 1 w5 o.dataA o.dataN o.dataC o.data) := Lib.hid HX5.out.2.2.2.1
    have HQV : Hid (rdFileS w5 q) := Lib.hid HQ5.out
    have hlit := (Below.refl w5.heap.size w5).alloc (Nat.le_refl _) (.cells #[] 5)
    have HLIT : Hid ((w5.alloc (.cells #[] 5)).ownsRow w5.heap.size 5 1 (.slice (some ⟨w5.heap.size, 0, none⟩) 0 0) 0 (([] : List Int).map (.int .u8))) := Lib.hid (by rw [← hsV]; exact World.ownsRow_lit _ #[] 0 (Nat.le_refl _) (by unfold maxLen; omega) (by simp))
    have HXT := Lib.hid (Rd.below HXV.out hlit (Nat.le_refl _))
    have hxl : o.data.length = o.dataN := HOL.out
    have hxc := HXT.out.le
    have hxm := HXT.out.max
    unfold maxLen at hxm
    obtain ⟨q0, q1, q2, q3, _⟩ := HPV.out
    have q3' := cell_later hlit q3
    go_wp2_with (at_builtin; refine app_any rfl _ _ 22 rfl w5.heap.size 5 Try.underlying22 ji jz0 jz1 jz2 rfl (by decide) (some ⟨w5.heap.size, 0, none⟩) 0 0 [] rfl HLIT.out o.dataA o.dataN o.dataC (o.data.map (.int .u8)) rfl ?c1b HXT.out.news HXT.out.none (int_bytes o.data) ?c2b ?c3b (by simp) ?_)
    case c1b => rw [List.length_map, hxl]; omega
    case c2b => unfold maxLen; omega
    case c3b => omega
    intro A4 C4 w6 ho6 hb6
    have ho6' : w6.ownsRow w5.heap.size 5 1 (.slice A4 o.dataN C4) o.dataN (o.data.map (.int .u8)) := by simpa using ho6
    obtain ⟨_, _, hvv, hAC, hCm⟩ := own_shape ho6'
    cases hvv
    have hbV6 := hlit.trans (by simpa using hb6)
    have BB6 := BBV.trans (hbV6.mono BBV.size)
    have HA6 := Lib.hid (HAV.out.later hbV6)
    have HP6 := Lib.hid (HPV.out.later hbV6)
    have HB6 := Lib.hid (HBV.out.later hbV6)
    have HC6 := Lib.hid (HCV.out.later hbV6)
    have HO6 := Lib.hid (HOVV.out.below hbV6)
    have HQ6 := Lib.hid (rdFileS_below HQV.out hbV6 (Nat.le_refl _))
    have hs7 : w5.heap.size ≤ w6.heap.size := by have := hbV6.size; omega
    clear ho6 hb6 hbV6 hlit HAV HPV HBV HOVV HXV HQV HLIT HXT q0 q1 q2 q3 q3' hxl hxc hxm a0 a1 a2 a3 o0 o1 o2 o3 c0 c1 c2 c3
    obtain ⟨q0, q1, q2, q3, qf⟩ := HP6.out
    have qf3 := qf 3 (by omega)
    have hw7 := Win.set (lo := w.heap.size + 1) (hi := w.heap.size + 2) w6 (w.heap.size + 1) 3 (.slice A4 o.dataN C4) (Nat.le_refl _) (by omega)
    have HA7 := Lib.hid (HA6.out.win hw7 (Or.inl (by omega)))
    have HP7 := Lib.hid (HP6.out.set3 (.slice A4 o.dataN C4))
    have HB7 := Lib.hid (HB6.out.win hw7 (Or.inr (by omega)))
    have HC7 := Lib.hid (HC6.out.win hw7 (Or.inr (by omega)))
    have HO7 := Lib.hid (HO6.out.win hw7 (Or.inl (by omega)))
    have HQ7 := Lib.hid (rdFileS_poke (o := 3) (v := .slice A4 o.dataN C4) HQ6.out HFQ.out (show w.heap.size + 1 < W3.heap.size by omega) q3 (fun z h => by cases h))
    have BB7 := BB6.trans (hw7.below (by omega) BB6.size)
    have HW7 : Hid (OwnS (encI .u8) 1 5 w5.heap.size w6.heap.size (w6.setCell ⟨w.heap.size + 1, 3, none⟩ (.slice A4 o.dataN C4)) A4 o.dataN C4 o.data) := Lib.hid ((OwnS.of (by rw [flat_encI]; exact ho6') HOL.out (by omega)).win hw7 (Or.inl (by omega)))
    have hs8 : w6.heap.size = (w6.setCell ⟨w.heap.size + 1, 3, none⟩ (.slice A4 o.dataN C4)).heap.size := (size_set _ _ _).symm
    obtain ⟨a0, _, _, _, _⟩ := HA7.out
    clear HA6 HB6 HC6 HO6 HQ6 ho6' hw7 qf
    go_wp2_with fail
    clear q0 q1 q2 q3 qf3 HP6
    generalize w6.setCell ⟨w.heap.size + 1, 3, none⟩ (.slice A4 o.dataN C4) = w7 at *
    go_region_held3 (fun w' => w'.cell? ⟨w.heap.size, 0, none⟩ = some (.int .i64 y.room) ∧ Below w7.heap.size w7 w')
      (first | exact keepd1 (by assumption) | exact keep1 (by assumption) (Nat.le_refl _) (by assumption) | exact ⟨a0, (Below.refl _ _).drew⟩)
      (first | (go_at_call 48; refine (l02Bytes_any q _ (rdFileS_below HQ7.out (tail1 (by assumption)) (Nat.le_refl _)) (by rw [HDQ.out]; omega)).mono ?_; rintro e w8 ⟨rfl, hb8⟩))
    obtain ⟨l0, hbw⟩ : w8.cell? ⟨w.heap.size, 0, none⟩ = some (.int .i64 y.room) ∧ Below w7.heap.size w7 w8 := by assumption
    have BB8 := BB7.trans (hbw.mono BB7.size)
    have HP8 := Lib.hid (HP7.out.later hbw)
    have HB8 := Lib.hid (HB7.out.later hbw)
    have HC8 := Lib.hid (HC7.out.later hbw)
    have HO8 := Lib.hid (HO7.out.below hbw)
    have HW8 := Lib.hid (HW7.out.below hbw)
    have hs9 : w6.heap.size ≤ w8.heap.size := by have := hbw.size; omega
    clear l0 hb8 a0 HA7 HP7 HB7 HC7 HO7 HW7 hbw
    rw [HDQ.out, HLL.out, show IntKind.i64.wrap (L : Int) = (L : Int) from IntWalk.i64_in _ (by have := HLL.out; omega)]
    have hL2 : L ≤ 200000 := by have := HLL.out; omega
    by_cases hk : o.kind = 2
    case pos =>
      have HK := Lib.hid hk
      replace HP8 : Hid (OutC (w.heap.size + 1) (.int .i64 2) (.string o.name) (.string o.dst) (.slice A4 o.dataN C4) w8) := Lib.hid (by rw [← hk]; exact HP8.out)
      by_cases hlt : (L : Int) < (o.dataN : Int)
      case pos =>
        by_cases h0 : 0 < L
        case pos =>
          obtain ⟨q0, q1, q2, q3, qf⟩ := HP8.out
          have qf3 := qf 3 (by omega)
          clear qf
          have hw9' := Win.set (lo := w.heap.size + 1) (hi := w.heap.size + 2) w8 (w.heap.size + 1) 3 (.slice A4 L C4) (Nat.le_refl _) (by omega)
          have HP9 := Lib.hid (HP8.out.set3 (.slice A4 L C4))
          have HB9 := Lib.hid (HB8.out.win hw9' (Or.inr (by omega)))
          have HC9 := Lib.hid (HC8.out.win hw9' (Or.inr (by omega)))
          have HO9 := Lib.hid (HO8.out.win hw9' (Or.inl (by omega)))
          have HW9 := Lib.hid ((HW8.out.short (m := L) (by omega) (by omega)).win hw9' (Or.inl (by omega)))
          have BB9 := BB8.trans (hw9'.below (by omega) BB8.size)
          clear hw9'
          have hLC : (L : Int) ≤ (C4 : Int) := by omega
          have hL0 : ¬ (L : Int) < 0 := by omega
          have HE : Hid (doD (datDisk y) (datFsOp o) = (((datDisk y).1, burnI (datDisk y).2.1, (datDisk y).2.2.1, (datDisk y).2.2.2 ++ [datFsOp ⟨2, o.name, o.dst, A4, L, C4, o.data.take L⟩]), 5)) := Lib.hid (by
            rw [doD_part HQ.out HOK.out HF0.out HFT.out H60.out HL.out HK.out (by show L < o.data.length; rw [HOL.out]; omega) h0]
            rw [show (datFsOp o).1 = 2 from HK.out]
            rfl)
          obtain ⟨⟨m, hm1, hm2, hof, hoo⟩, htop⟩ := HO9.out
          have hoo' : OwnFsOpS m w3.heap.size (w8.setCell ⟨w.heap.size + 1, 3, none⟩ (.slice A4 L C4)) ⟨qA, qN, qC, qs⟩ := hoo
          have hof' : OwnFileS w2.heap.size m (w8.setCell ⟨w.heap.size + 1, 3, none⟩ (.slice A4 L C4)) ⟨fA, fN, fC, fs⟩ := hof
          have HOO := Lib.hid hoo'
          have HOF := Lib.hid hof'
          have hlv := (Below.refl (w8.setCell ⟨w.heap.size + 1, 3, none⟩ (.slice A4 L C4)).heap.size (w8.setCell ⟨w.heap.size + 1, 3, none⟩ (.slice A4 L C4))).alloc (Nat.le_refl _) (.cells #[.int .i64 2, .string o.name, .string o.dst, .slice A4 L C4] 27)
          have HOV := Lib.hid (hoo'.below hlv)
          have hnews := news_four (w8.setCell ⟨w.heap.size + 1, 3, none⟩ (.slice A4 L C4)) (.int .i64 2) (.string o.name) (.string o.dst) (.slice A4 L C4) 27
          rw [size_set] at hnews
          have hsv : m ≤ ((w8.setCell ⟨w.heap.size + 1, 3, none⟩ (.slice A4 L C4)).alloc (.cells #[.int .i64 2, .string o.name, .string o.dst, .slice A4 L C4] 27)).heap.size := by have := HC9.out.lt; simp; omega
          obtain ⟨c0, c1, c2, c3, cf⟩ := HC9.out
          obtain ⟨o0, o1, o2, o3, _⟩ := HP9.out
          clear hoo hof hoo' hof' hlv
          go_wp2_with (at_builtin; refine wpList_append_lies _ (by rfl) _ _ _ (by rfl) m 27 i0 _ 4 64 Try.underlying32 hi hz0' hz1 hz2 rfl (by decide) (.slice qA qN qC) qN (qs.flatMap encFsOp) (by rfl) HOV.out.nest.row.own ⟨w8.heap.size, 0, none⟩ 1 1 [.int .i64 2, .string o.name, .string o.dst, .slice A4 L C4] (by rfl) (by rfl) hnews (one_fsOp ⟨2, o.name, o.dst, A4, L, C4, []⟩) (by decide) (by unfold maxLen; omega) (by omega) hsv _ rfl ?_)
          intro g9 C9 wz ho9 hg9 hor9 hlt9
          clear c0 c1 c2 c3 cf o0 o1 o2 o3 hnews hsv hlt9
          have hop := opPush (X := w3.heap.size) (H := w3.heap.size) (B := w5.heap.size) (x := ⟨2, o.name, o.dst, A4, L, C4, o.data.take L⟩) HOO.out HC9.out (Nat.le_refl _) (by omega) hm2 (HW9.out.grow (by rw [size_set]; omega) (Nat.le_refl _)) ho9 hg9 (by simpa using hor9) (by omega)
          obtain ⟨u1, u2, u3, u4, u5⟩ := hop
          have HU1 := Lib.hid u1
          have HU2 := Lib.hid u2
          have HU4 := Lib.hid u4
          have HU5 := Lib.hid (u5 _ _ HOF.out)
          have HBZ := Lib.hid (HB9.out.below u3 (by omega))
          have hsz9 : (w8.setCell ⟨w.heap.size + 1, 3, none⟩ (.slice A4 L C4)).heap.size ≤ wz.heap.size := u3.size
          clear u1 u2 u3 u4 u5 ho9 hg9 hor9
          obtain ⟨c0, c1, c2, c3, cf⟩ := HU2.out
          have f3 := cf 3 (by omega)
          obtain ⟨b0, b1, b2, b3, bf⟩ := HBZ.out
          have p0 := bf 0 (by omega)
          have p1 := bf 1 (by omega)
          have p2 := bf 2 (by omega)
          have p3 := bf 3 (by omega)
          clear bf cf
          go_wp2
          refine bodyPost_ret (v := .tuple #[.agg #[.int .i64 room2, .int .i64 (burnI fuse2), .slice fA fN fC, .slice (some ⟨g9, 0, none⟩) (qN + 1) C9], .int .i64 5]) (by simp [results, Try.results33, go_sem, b0, b1, b2, b3]) rfl ?_
          have hw9 := win_four (wz.setCell ⟨w3.heap.size, 3, none⟩ (.slice (some ⟨g9, 0, none⟩) (qN + 1) C9)) (w.heap.size + 2) (w.heap.size + 2) (w.heap.size + 3) (Nat.le_refl _) (by omega) (.int .i64 room2) (.int .i64 (burnI fuse2)) (.slice fA fN fC) (.slice (some ⟨g9, 0, none⟩) (qN + 1) C9)
          have h9 : OwnDisk w2.heap.size _ _ ⟨room2, burnI fuse2, fA, fN, fC, fs, some ⟨g9, 0, none⟩, qN + 1, C9, qs ++ [⟨2, o.name, o.dst, A4, L, C4, o.data.take L⟩]⟩ := ⟨⟨m, hm1, by rw [size_set]; have := HU2.out.lt; omega, HU5.out, HU1.out⟩, Nat.le_refl _⟩
          have h10 := h9.win hw9 (Or.inl hs2)
          have hb9 := BB9.trans (HU4.out.mono (by omega))
          refine RetDkI.more (y2 := (⟨room2, fuse2, fA, fN, fC, fs, qA, qN, qC, qs⟩ : DiskR)) (x := ⟨2, o.name, o.dst, A4, L, C4, o.data.take L⟩) HE.out HD2.out (h10.lo_le (lo' := w.heap.size) (by omega)).whole ?_ HRD.out HBY.out (hb9.trans (hw9.below (by omega) hb9.size))
          rw [HBY.out]
          have h12 := HNN.out
          show bulkDisk y + (o.name.size + o.dst.size + (o.data.take L).length) ≤ 1048576
          rw [List.length_take]
          omega
        case neg =>
          obtain ⟨q0, q1, q2, q3, qf⟩ := HP8.out
          have qf3 := qf 3 (by omega)
          clear qf
          have hw9' := Win.set (lo := w.heap.size + 1) (hi := w.heap.size + 2) w8 (w.heap.size + 1) 3 (.slice A4 L C4) (Nat.le_refl _) (by omega)
          have HP9 := Lib.hid (HP8.out.set3 (.slice A4 L C4))
          have HB9 := Lib.hid (HB8.out.win hw9' (Or.inr (by omega)))
          have HC9 := Lib.hid (HC8.out.win hw9' (Or.inr (by omega)))
          have HO9 := Lib.hid (HO8.out.win hw9' (Or.inl (by omega)))
          have HW9 := Lib.hid ((HW8.out.short (m := L) (by omega) (by omega)).win hw9' (Or.inl (by omega)))
          have BB9 := BB8.trans (hw9'.below (by omega) BB8.size)
          clear hw9'
          have hLC : (L : Int) ≤ (C4 : Int) := by omega
          have hL0 : ¬ (L : Int) < 0 := by omega
          have HE : Hid (doD (datDisk y) (datFsOp o) = (((datDisk y).1, burnI (datDisk y).2.1, (datDisk y).2.2.1, (datDisk y).2.2.2), 5)) := Lib.hid (doD_none HQ.out HOK.out HF0.out HFT.out H60.out HL.out HK.out (by show L < o.data.length; rw [HOL.out]; omega) (by omega))
          have h00 : L = 0 := by omega
          subst h00
          obtain ⟨c0, c1, c2, c3, _⟩ := HC9.out
          obtain ⟨b0, b1, b2, b3, bf⟩ := HB9.out
          have p0 := bf 0 (by omega)
          have p1 := bf 1 (by omega)
          have p2 := bf 2 (by omega)
          have p3 := bf 3 (by omega)
          clear bf
          go_wp2
          refine bodyPost_ret (v := .tuple #[.agg #[.int .i64 room2, .int .i64 (burnI fuse2), .slice fA fN fC, .slice qA qN qC], .int .i64 5]) (by simp [results, Try.results33, go_sem, b0, b1, b2, b3]) rfl ?_
          have hw9 := win_four (w8.setCell ⟨w.heap.size + 1, 3, none⟩ (.slice A4 0 C4)) (w.heap.size + 2) (w.heap.size + 2) (w.heap.size + 3) (Nat.le_refl _) (by omega) (.int .i64 room2) (.int .i64 (burnI fuse2)) (.slice fA fN fC) (.slice qA qN qC)
          have h9 := ((HO9.out.win hw9 (Or.inl hs2)).lo_le (lo' := w.heap.size) (by omega)).whole
          exact RetDkI.nil (y2 := (⟨room2, fuse2, fA, fN, fC, fs, qA, qN, qC, qs⟩ : DiskR)) HE.out HD2.out ⟨h9.mid, h9.top⟩ (by rw [HBY.out]; exact hn) (BB9.trans (hw9.below (by omega) BB9.size))
      case neg =>
        have HE : Hid (doD (datDisk y) (datFsOp o) = (((datDisk y).1, burnI (datDisk y).2.1, (datDisk y).2.2.1, (datDisk y).2.2.2 ++ [datFsOp ⟨2, o.name, o.dst, A4, o.dataN, C4, o.data⟩]), 0)) := Lib.hid (by
          rw [doD_all HQ.out HOK.out HF0.out HFT.out H60.out (by rw [HL.out]; show ¬ (o.kind = 2 ∧ (L : Int) < (o.data.length : Int)); rw [HOL.out]; exact fun h => hlt h.2)]
          rw [show datFsOp o = datFsOp ⟨2, o.name, o.dst, A4, o.dataN, C4, o.data⟩ from by unfold datFsOp; rw [HK.out]])
        have hltn : (o.dataN : Int) ≤ (L : Int) := by omega
        clear hlt
        obtain ⟨⟨m, hm1, hm2, hof, hoo⟩, htop⟩ := HO8.out
        have hoo' : OwnFsOpS m w3.heap.size w8 ⟨qA, qN, qC, qs⟩ := hoo
        have hof' : OwnFileS w2.heap.size m w8 ⟨fA, fN, fC, fs⟩ := hof
        have HOO := Lib.hid hoo'
        have HOF := Lib.hid hof'
        have hlv := (Below.refl w8.heap.size w8).alloc (Nat.le_refl _) (.cells #[.int .i64 2, .string o.name, .string o.dst, .slice A4 o.dataN C4] 27)
        have HOV := Lib.hid (hoo'.below hlv)
        have hnews := news_four w8 (.int .i64 2) (.string o.name) (.string o.dst) (.slice A4 o.dataN C4) 27
        have hsv : m ≤ (w8.alloc (.cells #[.int .i64 2, .string o.name, .string o.dst, .slice A4 o.dataN C4] 27)).heap.size := by have := HC8.out.lt; simp; omega
        obtain ⟨c0, c1, c2, c3, cf⟩ := HC8.out
        obtain ⟨o0, o1, o2, o3, _⟩ := HP8.out
        clear hoo hof hoo' hof' hlv
        go_wp2_with (at_builtin; refine wpList_append_lies _ (by rfl) _ _ _ (by rfl) m 27 i0 _ 4 64 Try.underlying32 hi hz0' hz1 hz2 rfl (by decide) (.slice qA qN qC) qN (qs.flatMap encFsOp) (by rfl) HOV.out.nest.row.own ⟨w8.heap.size, 0, none⟩ 1 1 [.int .i64 2, .string o.name, .string o.dst, .slice A4 o.dataN C4] (by rfl) (by rfl) hnews (one_fsOp ⟨2, o.name, o.dst, A4, o.dataN, C4, []⟩) (by decide) (by unfold maxLen; omega) (by omega) hsv _ rfl ?_)
        intro g9 C9 wz ho9 hg9 hor9 hlt9
        clear c0 c1 c2 c3 cf o0 o1 o2 o3 hnews hsv hlt9
        have hop := opPush (X := w3.heap.size) (H := w3.heap.size) (B := w5.heap.size) (x := ⟨2, o.name, o.dst, A4, o.dataN, C4, o.data⟩) HOO.out HC8.out (Nat.le_refl _) (by omega) hm2 (HW8.out.grow (by omega) (Nat.le_refl _)) ho9 hg9 (by simpa using hor9) (by omega)
        obtain ⟨u1, u2, u3, u4, u5⟩ := hop
        have HU1 := Lib.hid u1
        have HU2 := Lib.hid u2
        have HU4 := Lib.hid u4
        have HU5 := Lib.hid (u5 _ _ HOF.out)
        have HBZ := Lib.hid (HB8.out.below u3 (by omega))
        have hsz9 : w8.heap.size ≤ wz.heap.size := u3.size
        clear u1 u2 u3 u4 u5 ho9 hg9 hor9
        obtain ⟨c0, c1, c2, c3, cf⟩ := HU2.out
        have f3 := cf 3 (by omega)
        obtain ⟨b0, b1, b2, b3, bf⟩ := HBZ.out
        have p0 := bf 0 (by omega)
        have p1 := bf 1 (by omega)
        have p2 := bf 2 (by omega)
        have p3 := bf 3 (by omega)
        clear bf cf
        go_wp2
        refine bodyPost_ret (v := .tuple #[.agg #[.int .i64 room2, .int .i64 (burnI fuse2), .slice fA fN fC, .slice (some ⟨g9, 0, none⟩) (qN + 1) C9], .int .i64 0]) (by simp [results, Try.results33, go_sem, b0, b1, b2, b3]) rfl ?_
        have hw9 := win_four (wz.setCell ⟨w3.heap.size, 3, none⟩ (.slice (some ⟨g9, 0, none⟩) (qN + 1) C9)) (w.heap.size + 2) (w.heap.size + 2) (w.heap.size + 3) (Nat.le_refl _) (by omega) (.int .i64 room2) (.int .i64 (burnI fuse2)) (.slice fA fN fC) (.slice (some ⟨g9, 0, none⟩) (qN + 1) C9)
        have h9 : OwnDisk w2.heap.size _ _ ⟨room2, burnI fuse2, fA, fN, fC, fs, some ⟨g9, 0, none⟩, qN + 1, C9, qs ++ [⟨2, o.name, o.dst, A4, o.dataN, C4, o.data⟩]⟩ := ⟨⟨m, hm1, by rw [size_set]; have := HU2.out.lt; omega, HU5.out, HU1.out⟩, Nat.le_refl _⟩
        have h10 := h9.win hw9 (Or.inl hs2)
        have hb9 := BB8.trans (HU4.out.mono (by omega))
        refine RetDkI.more (y2 := (⟨room2, fuse2, fA, fN, fC, fs, qA, qN, qC, qs⟩ : DiskR)) (x := ⟨2, o.name, o.dst, A4, o.dataN, C4, o.data⟩) HE.out HD2.out (h10.lo_le (lo' := w.heap.size) (by omega)).whole ?_ HRD.out HBY.out (hb9.trans (hw9.below (by omega) hb9.size))
        rw [HBY.out]
        exact HNN.out
    case neg =>
      have HE : Hid (doD (datDisk y) (datFsOp o) = (((datDisk y).1, burnI (datDisk y).2.1, (datDisk y).2.2.1, (datDisk y).2.2.2 ++ [datFsOp ⟨o.kind, o.name, o.dst, A4, o.dataN, C4, o.data⟩]), 0)) := Lib.hid (by
        rw [doD_all HQ.out HOK.out HF0.out HFT.out H60.out (fun h => hk h.1)]
        rfl)
      have hk2 : (o.kind == 2) = false := by simpa using hk
      obtain ⟨⟨m, hm1, hm2, hof, hoo⟩, htop⟩ := HO8.out
      have hoo' : OwnFsOpS m w3.heap.size w8 ⟨qA, qN, qC, qs⟩ := hoo
      have hof' : OwnFileS w2.heap.size m w8 ⟨fA, fN, fC, fs⟩ := hof
      have HOO := Lib.hid hoo'
      have HOF := Lib.hid hof'
      have hlv := (Below.refl w8.heap.size w8).alloc (Nat.le_refl _) (.cells #[.int .i64 o.kind, .string o.name, .string o.dst, .slice A4 o.dataN C4] 27)
      have HOV := Lib.hid (hoo'.below hlv)
      have hnews := news_four w8 (.int .i64 o.kind) (.string o.name) (.string o.dst) (.slice A4 o.dataN C4) 27
      have hsv : m ≤ (w8.alloc (.cells #[.int .i64 o.kind, .string o.name, .string o.dst, .slice A4 o.dataN C4] 27)).heap.size := by have := HC8.out.lt; simp; omega
      obtain ⟨c0, c1, c2, c3, cf⟩ := HC8.out
      obtain ⟨o0, o1, o2, o3, _⟩ := HP8.out
      clear hoo hof hoo' hof' hlv
      go_wp2_with (at_builtin; refine wpList_append_lies _ (by rfl) _ _ _ (by rfl) m 27 i0 _ 4 64 Try.underlying32 hi hz0' hz1 hz2 rfl (by decide) (.slice qA qN qC) qN (qs.flatMap encFsOp) (by rfl) HOV.out.nest.row.own ⟨w8.heap.size, 0, none⟩ 1 1 [.int .i64 o.kind, .string o.name, .string o.dst, .slice A4 o.dataN C4] (by rfl) (by rfl) hnews (one_fsOp ⟨o.kind, o.name, o.dst, A4, o.dataN, C4, []⟩) (by decide) (by unfold maxLen; omega) (by omega) hsv _ rfl ?_)
      intro g9 C9 wz ho9 hg9 hor9 hlt9
      clear c0 c1 c2 c3 cf o0 o1 o2 o3 hnews hsv hlt9
      have hop := opPush (X := w3.heap.size) (H := w3.heap.size) (B := w5.heap.size) (x := ⟨o.kind, o.name, o.dst, A4, o.dataN, C4, o.data⟩) HOO.out HC8.out (Nat.le_refl _) (by omega) hm2 (HW8.out.grow (by omega) (Nat.le_refl _)) ho9 hg9 (by simpa using hor9) (by omega)
      obtain ⟨u1, u2, u3, u4, u5⟩ := hop
      have HU1 := Lib.hid u1
      have HU2 := Lib.hid u2
      have HU4 := Lib.hid u4
      have HU5 := Lib.hid (u5 _ _ HOF.out)
      have HBZ := Lib.hid (HB8.out.below u3 (by omega))
      have hsz9 : w8.heap.size ≤ wz.heap.size := u3.size
      clear u1 u2 u3 u4 u5 ho9 hg9 hor9
      obtain ⟨c0, c1, c2, c3, cf⟩ := HU2.out
      have f3 := cf 3 (by omega)
      obtain ⟨b0, b1, b2, b3, bf⟩ := HBZ.out
      have p0 := bf 0 (by omega)
      have p1 := bf 1 (by omega)
      have p2 := bf 2 (by omega)
      have p3 := bf 3 (by omega)
      clear bf cf
      go_wp2
      refine bodyPost_ret (v := .tuple #[.agg #[.int .i64 room2, .int .i64 (burnI fuse2), .slice fA fN fC, .slice (some ⟨g9, 0, none⟩) (qN + 1) C9], .int .i64 0]) (by simp [results, Try.results33, go_sem, b0, b1, b2, b3]) rfl ?_
      have hw9 := win_four (wz.setCell ⟨w3.heap.size, 3, none⟩ (.slice (some ⟨g9, 0, none⟩) (qN + 1) C9)) (w.heap.size + 2) (w.heap.size + 2) (w.heap.size + 3) (Nat.le_refl _) (by omega) (.int .i64 room2) (.int .i64 (burnI fuse2)) (.slice fA fN fC) (.slice (some ⟨g9, 0, none⟩) (qN + 1) C9)
      have h9 : OwnDisk w2.heap.size _ _ ⟨room2, burnI fuse2, fA, fN, fC, fs, some ⟨g9, 0, none⟩, qN + 1, C9, qs ++ [⟨o.kind, o.name, o.dst, A4, o.dataN, C4, o.data⟩]⟩ := ⟨⟨m, hm1, by rw [size_set]; have := HU2.out.lt; omega, HU5.out, HU1.out⟩, Nat.le_refl _⟩
      have h10 := h9.win hw9 (Or.inl hs2)
      have hb9 := BB8.trans (HU4.out.mono (by omega))
      refine RetDkI.more (y2 := (⟨room2, fuse2, fA, fN, fC, fs, qA, qN, qC, qs⟩ : DiskR)) (x := ⟨o.kind, o.name, o.dst, A4, o.dataN, C4, o.data⟩) HE.out HD2.out (h10.lo_le (lo' := w.heap.size) (by omega)).whole ?_ HRD.out HBY.out (hb9.trans (hw9.below (by omega) hb9.size))
      rw [HBY.out]
      exact HNN.out
end Go.Proofs.Ytoodlmhnemamhaa

/- burn of the program. -/
namespace Go.Proofs.Ytoodlmhnemamhaa
open Go.RowKit
set_option maxHeartbeats 1600000 in
theorem burn_any (X : Nat) (w : World) (room fuse : Int) (v2 v3 : Value) (h : OutC X (.int .i64 room) (.int .i64 fuse) v2 v3 w) (h1 : -1 ≤ fuse) (h2 : fuse ≤ 2000) :
    Calls Try.prog 62 #[.pointer (some ⟨X, 0, none⟩)] w fun e w' => e = .returned (.tuple #[]) ∧ OutC X (.int .i64 room) (.int .i64 (burnI fuse)) v2 v3 w' ∧ Win X (X + 1) w w' := by
  have HC := Lib.hid h
  obtain ⟨c0, c1, c2, c3, cf⟩ := h
  have f1 := cf 1 (by omega)
  clear cf
  by_cases hf : 0 < fuse
  · have HB : Hid (burnI fuse = fuse - 1) := Lib.hid (by unfold burnI; rw [if_pos hf])
    go_enter Try.func62, Try.ntmps62
    go_wp2
    go_end0
    rw [HB.out]
    exact ⟨rfl, HC.out.set1 _, Win.set _ _ _ _ (Nat.le_refl _) (Nat.lt_succ_self _)⟩
  · have HB : Hid (burnI fuse = fuse) := Lib.hid (by unfold burnI; rw [if_neg hf])
    go_enter Try.func62, Try.ntmps62
    go_wp2
    go_end0
    rw [HB.out]
    exact ⟨rfl, HC.out, Win.refl _ _ _⟩
end Go.Proofs.Ytoodlmhnemamhaa

/- DiskDo of the program. -/
namespace Go.Proofs.Ytoodlmhnemamhaa
open Go.RowKit
theorem opB_two {o : FsOpR} (h : opOk (datFsOp o) = true) (hk : o.kind = 2) (hl : o.data.length = o.dataN) : 1 ≤ o.dataN := by
  unfold opOk opB datFsOp at h
  simp [hk] at h
  omega
set_option maxRecDepth 100000 in
set_option maxHeartbeats 6400000 in
theorem diskDo_impl_k (y : DiskR) (D : DskD) (hD : datDisk y = D) (o : FsOpR) (E : OD) (hE : datFsOp o = E) (w : World) (g : goodDisk w y) (go : goodFsOp w o) (hnn : bulkDisk y + bulkFsOp o ≤ 1048576) :
    Calls Try.prog 34 #[.agg #[.int .i64 y.room, .int .i64 y.fuse, .slice y.filesA y.filesN y.filesC, .slice y.waitA y.waitN y.waitC], .agg #[.int .i64 o.kind, .string o.name, .string o.dst, .slice o.dataA o.dataN o.dataC]] w fun e w' => RetDkI (doD D E) w e w' := by
  subst hD
  subst hE
  have hn : bulkDisk y ≤ 1048576 := by omega
  have hb0 := (((Below.refl w.heap.size w).alloc (Nat.le_refl _) (.cells #[.int .i64 y.room, .int .i64 y.fuse, .slice y.filesA y.filesN y.filesC, .slice y.waitA y.waitN y.waitC] 34)).alloc (by simp) (.cells #[.int .i64 o.kind, .string o.name, .string o.dst, .slice o.dataA o.dataN o.dataC] 27)).alloc (by simp; omega) (.cells #[.int .i64 0, .int .i64 0, .slice none 0 0, .slice none 0 0] 34)
  have HA0 := OutC.mk0 w (.int .i64 y.room) (.int .i64 y.fuse) (.slice y.filesA y.filesN y.filesC) (.slice y.waitA y.waitN y.waitC) 34
  have HP0 := OutC.mk0 (w.alloc (.cells #[.int .i64 y.room, .int .i64 y.fuse, .slice y.filesA y.filesN y.filesC, .slice y.waitA y.waitN y.waitC] 34)) (.int .i64 o.kind) (.string o.name) (.string o.dst) (.slice o.dataA o.dataN o.dataC) 27
  have HB0 := OutC.mk0 ((w.alloc (.cells #[.int .i64 y.room, .int .i64 y.fuse, .slice y.filesA y.filesN y.filesC, .slice y.waitA y.waitN y.waitC] 34)).alloc (.cells #[.int .i64 o.kind, .string o.name, .string o.dst, .slice o.dataA o.dataN o.dataC] 27)) (.int .i64 0) (.int .i64 0) (.slice none 0 0) (.slice none 0 0) 34
  rw [show (w.alloc (.cells #[.int .i64 y.room, .int .i64 y.fuse, .slice y.filesA y.filesN y.filesC, .slice y.waitA y.waitN y.waitC] 34)).heap.size = w.heap.size + 1 from by simp] at HP0
  rw [show ((w.alloc (.cells #[.int .i64 y.room, .int .i64 y.fuse, .slice y.filesA y.filesN y.filesC, .slice y.waitA y.waitN y.waitC] 34)).alloc (.cells #[.int .i64 o.kind, .string o.name, .string o.dst, .slice o.dataA o.dataN o.dataC] 27)).heap.size = w.heap.size + 2 from by simp] at HB0
  have HA := Lib.hid ((HA0.later ((Below.refl _ _).alloc (Nat.le_refl _) (.cells #[.int .i64 o.kind, .string o.name, .string o.dst, .slice o.dataA o.dataN o.dataC] 27))).later ((Below.refl _ _).alloc (Nat.le_refl _) (.cells #[.int .i64 0, .int .i64 0, .slice none 0 0, .slice none 0 0] 34)))
  have HP := Lib.hid (HP0.later ((Below.refl _ _).alloc (Nat.le_refl _) (.cells #[.int .i64 0, .int .i64 0, .slice none 0 0, .slice none 0 0] 34)))
  have HB := Lib.hid HB0
  have HG := Lib.hid (show goodDisk _ y from good_of_rd (rdDisk_below (goodDisk_rd g) hb0 (Nat.le_refl _)) (goodDisk_ok g))
  have HX := Lib.hid (show goodFsOp _ o from goodFsOp_below go hb0 (Nat.le_refl _))
  have HRD := Lib.hid (goodDisk_rd g)
  have HST := Lib.hid (goodDisk_str g)
  have HSO : Hid (strFsOp o) := Lib.hid ⟨go.2.1, go.2.2.1⟩
  have HBU := Lib.hid (bulkDisk_dat (goodDisk_rd g))
  have HOL : Hid (o.data.length = o.dataN) := Lib.hid go.2.2.2.1.len
  have HLF : Hid ((datDisk y).2.2.1.length = y.filesN) := Lib.hid (by show (y.files.map datFile).length = _; rw [List.length_map]; exact g.2.2.1.1.len)
  have HLW : Hid ((datDisk y).2.2.2.length = y.waitN) := Lib.hid (by show (y.wait.map datFsOp).length = _; rw [List.length_map]; exact g.2.2.2.1.len)
  have n1 := filesN_le hn
  have n2 := waitN_le hn
  have hon : o.dataN ≤ 1048576 := by unfold bulkFsOp at hnn; omega
  have HNN : Hid (bulkDisk y + (o.name.size + o.dst.size + o.data.length) ≤ 1048576) := Lib.hid (by rw [HOL.out]; unfold bulkFsOp at hnn; omega)
  have hz0 : w.heap.size + 3 = (((w.alloc (.cells #[.int .i64 y.room, .int .i64 y.fuse, .slice y.filesA y.filesN y.filesC, .slice y.waitA y.waitN y.waitC] 34)).alloc (.cells #[.int .i64 o.kind, .string o.name, .string o.dst, .slice o.dataA o.dataN o.dataC] 27)).alloc (.cells #[.int .i64 0, .int .i64 0, .slice none 0 0, .slice none 0 0] 34)).heap.size := by simp
  obtain ⟨i0, hi, hz0', hz1, hz2⟩ := info_parts infoFsOp
  obtain ⟨i1, ji, jz0, jz1, jz2⟩ := info_parts infoByte
  clear HA0 HP0 HB0 g go hnn
  go_enter Try.func34, Try.ntmps34
  go_wp2_with fail
  generalize ((w.alloc (.cells #[.int .i64 y.room, .int .i64 y.fuse, .slice y.filesA y.filesN y.filesC, .slice y.waitA y.waitN y.waitC] 34)).alloc (.cells #[.int .i64 o.kind, .string o.name, .string o.dst, .slice o.dataA o.dataN o.dataC] 27)).alloc (.cells #[.int .i64 0, .int .i64 0, .slice none 0 0, .slice none 0 0] 34) = W0 at *
  refine (diskOk_impl_k y _ rfl _ HG.out hn).mono ?_
  rintro e w1 ⟨rfl, hb1⟩
  have BB1 := hb0.trans (hb1.mono hb0.size)
  have HA1 := Lib.hid (HA.out.later hb1)
  have HP1 := Lib.hid (HP.out.later hb1)
  have HB1 := Lib.hid (HB.out.later hb1)
  have HG1 := Lib.hid (goodDisk_below HG.out hb1 (Nat.le_refl _))
  have HX1 := Lib.hid (goodFsOp_below HX.out hb1 (Nat.le_refl _))
  have hs1 : w.heap.size + 3 ≤ w1.heap.size := by have := hb1.size; omega
  clear HA HP HB HG HX hb1 hb0
  cases hq : diskB (datDisk y).1 (datDisk y).2.1 (datDisk y).2.2.1 (datDisk y).2.2.2 with
  | false =>
    have HE : Hid (doD (datDisk y) (datFsOp o) = (noD, 1)) := Lib.hid (doD_bad (by rw [show okD (datDisk y) = false from hq]; simp))
    clear hq
    obtain ⟨b0, b1, b2, b3, bf⟩ := HB1.out
    have p0 := bf 0 (by omega)
    have p1 := bf 1 (by omega)
    have p2 := bf 2 (by omega)
    have p3 := bf 3 (by omega)
    clear bf
    go_wp2
    refine bodyPost_ret (v := .tuple #[.agg #[.int .i64 0, .int .i64 0, .slice none 0 0, .slice none 0 0], .int .i64 1]) (by simp [results, Try.results34, go_sem, b0, b1, b2, b3]) rfl ?_
    rw [HE.out]
    exact RetDkI.no (BB1.trans ((win_four w1 (w.heap.size + 2) (w.heap.size + 2) (w.heap.size + 3) (Nat.le_refl _) (by omega) (.int .i64 0) (.int .i64 0) (.slice none 0 0) (.slice none 0 0)).below (by omega) BB1.size))
  | true =>
  have HQ : Hid (okD (datDisk y) = true) := Lib.hid hq
  clear hq
  obtain ⟨o0, o1, o2, o3, _⟩ := HP1.out
  go_wp2_with fail
  clear o0 o1 o2 o3
  refine (fsOpOk_impl_k o _ rfl _ HX1.out).mono ?_
  rintro e w2 ⟨rfl, hb2⟩
  have BB2 := BB1.trans (hb2.mono BB1.size)
  have HA2 := Lib.hid (HA1.out.later hb2)
  have HP2 := Lib.hid (HP1.out.later hb2)
  have HB2 := Lib.hid (HB1.out.later hb2)
  have HG2 := Lib.hid (goodDisk_below HG1.out hb2 (Nat.le_refl _))
  have HX2 := Lib.hid (goodFsOp_below HX1.out hb2 (Nat.le_refl _))
  have hs2 : w.heap.size + 3 ≤ w2.heap.size := by have := hb2.size; omega
  clear HA1 HP1 HB1 HG1 HX1 hb2 hs1
  cases hq : opB (datFsOp o).1 (datFsOp o).2.1 (datFsOp o).2.2.1 (datFsOp o).2.2.2.length with
  | false =>
    have HE : Hid (doD (datDisk y) (datFsOp o) = (noD, 1)) := Lib.hid (doD_bad (by rw [show opOk (datFsOp o) = false from hq]; simp))
    clear hq
    obtain ⟨b0, b1, b2, b3, bf⟩ := HB2.out
    have p0 := bf 0 (by omega)
    have p1 := bf 1 (by omega)
    have p2 := bf 2 (by omega)
    have p3 := bf 3 (by omega)
    clear bf
    go_wp2
    refine bodyPost_ret (v := .tuple #[.agg #[.int .i64 0, .int .i64 0, .slice none 0 0, .slice none 0 0], .int .i64 1]) (by simp [results, Try.results34, go_sem, b0, b1, b2, b3]) rfl ?_
    rw [HE.out]
    exact RetDkI.no (BB2.trans ((win_four w2 (w.heap.size + 2) (w.heap.size + 2) (w.heap.size + 3) (Nat.le_refl _) (by omega) (.int .i64 0) (.int .i64 0) (.slice none 0 0) (.slice none 0 0)).below (by omega) BB2.size))
  | true =>
  have HOK : Hid (opOk (datFsOp o) = true) := Lib.hid hq
  clear hq
  obtain ⟨a0, a1, a2, a3, _⟩ := HA2.out
  go_wp2_with fail
  clear a0 a1 a2 a3
  refine (copyDisk_any y _ (goodDisk_rd HG2.out) hn n1 n2).mono ?_
  rintro e w3 ⟨y2, rfl, hd, ho, hb3⟩
  obtain ⟨room2, fuse2, fA, fN, fC, fs, qA, qN, qC, qs⟩ := y2
  have HD2 := Lib.hid hd
  have hfe : fuse2 = y.fuse := congrArg (fun D : DskD => D.2.1) hd
  have HFE := Lib.hid hfe
  have HBY : Hid (bulkDisk (⟨room2, fuse2, fA, fN, fC, fs, qA, qN, qC, qs⟩ : DiskR) = bulkDisk y) := Lib.hid (by rw [bulkDisk_dat ho.rd, hd, ← HBU.out])
  have hal := (Below.refl w3.heap.size w3).alloc (Nat.le_refl _) (.cells #[.int .i64 room2, .int .i64 fuse2, .slice fA fN fC, .slice qA qN qC] 34)
  have BB3 := (BB2.trans (hb3.mono BB2.size)).trans (hal.mono (BB2.trans (hb3.mono BB2.size)).size)
  have HA3 := Lib.hid ((HA2.out.later hb3).later hal)
  have HP3 := Lib.hid ((HP2.out.later hb3).later hal)
  have HB3 := Lib.hid ((HB2.out.later hb3).later hal)
  have HC3 := Lib.hid (OutC.mk0 w3 (.int .i64 room2) (.int .i64 fuse2) (.slice fA fN fC) (.slice qA qN qC) 34)
  have HG3 := Lib.hid (goodDisk_below (goodDisk_below HG2.out hb3 (Nat.le_refl _)) hal (Nat.le_refl _))
  have HX3 := Lib.hid (goodFsOp_below (goodFsOp_below HX2.out hb3 (Nat.le_refl _)) hal (Nat.le_refl _))
  have HO3 := Lib.hid (ho.below hal)
  have hs3 : w2.heap.size ≤ w3.heap.size := hb3.size
  have hs4 : w3.heap.size < (w3.alloc (.cells #[.int .i64 room2, .int .i64 fuse2, .slice fA fN fC, .slice qA qN qC] 34)).heap.size := by simp
  have HSR := Lib.hid (seen_room HQ.out)
  obtain ⟨r1, r2, r3, r4, r5, r6, r7⟩ : (sizeF (seenD (datDisk y)) : Int) ≤ y.room ∧ 0 ≤ y.room ∧ y.room ≤ 200000 ∧ -1 ≤ y.fuse ∧ y.fuse ≤ 2000 ∧ y.filesN ≤ 12 ∧ y.waitN ≤ 60 := by
    have h := HSR.out
    rw [HLF.out, HLW.out] at h
    exact h
  have hqn : qN ≤ 60 := by
    have e1 := congrArg (fun D : DskD => D.2.2.2.length) hd
    have e2 : (qs.map datFsOp).length = (datDisk y).2.2.2.length := e1
    rw [List.length_map, HLW.out] at e2
    have e3 : qs.length = qN := ho.rd.2.1.len
    omega
  have hqc : qN ≤ qC ∧ qC ≤ maxLen := ⟨ho.rd.2.1.le, ho.rd.2.1.max⟩
  unfold maxLen at hqc
  rw [← hfe] at r4 r5
  clear hd ho hb3 hfe
  obtain ⟨a0, a1, a2, a3, _⟩ := HA3.out
  clear HA2 HP2 HB2 HX2 HG2
  simp only at HC3 HO3 HBY hal BB3 ⊢
  have HSD := Lib.hid (seen_okD HQ.out)
  have HN5 : Hid (∀ k, k < (y.files.map datFile).length → nameStep (y.files.map datFile) k = true) := Lib.hid (by obtain ⟨_, _, _, _, _, s5⟩ := diskB_seen (show diskB (datDisk y).1 (datDisk y).2.1 (datDisk y).2.2.1 (datDisk y).2.2.2 = true from HQ.out); exact s5)
  go_wp2_with fail
  generalize w3.alloc (.cells #[.int .i64 room2, .int .i64 fuse2, .slice fA fN fC, .slice qA qN qC] 34) = W3 at *
  clear a0 a1 a2 a3
  refine (seenOf_any y _ (goodDisk_rd HG3.out) HST.out hn r6 r7 r3 HN5.out).mono ?_
  rintro e w4 ⟨hq, hb4⟩
  rw [show seenB y.room (y.files.map datFile) (y.wait.map datFsOp) = some (seenD (datDisk y)) from HSD.out] at hq
  obtain ⟨b, n, M, h1, rfl, hFM, hbb⟩ : ∃ (b n : Nat) (M : List (ByteArray × Row Int)), seenD (datDisk y) = datM M ∧ e = .returned (.tuple #[.map (some b), .bool true]) ∧ FM w4 b n M ∧ W3.heap.size ≤ b := by
    rcases hq with ⟨h, _⟩ | ⟨b, n, M, h1, h2, h3, _, h5⟩
    · cases h
    · exact ⟨b, n, M, Option.some.inj h1, h2, h3, h5⟩
  have HLM := Lib.hid h1
  have HM4 := Lib.hid hFM
  have BB4 := BB3.trans (hb4.mono BB3.size)
  have HA4 := Lib.hid (HA3.out.later hb4)
  have HP4 := Lib.hid (HP3.out.later hb4)
  have HB4 := Lib.hid (HB3.out.later hb4)
  have HC4 := Lib.hid (HC3.out.later hb4)
  have HO4 := Lib.hid (HO3.out.below hb4)
  have HX4 := Lib.hid (goodFsOp_below HX3.out hb4 (Nat.le_refl _))
  have hs5 : W3.heap.size ≤ w4.heap.size := hb4.size
  clear HA3 HP3 HB3 HC3 HO3 HX3 HG3 hq h1 hFM hb4 HSR HSD HN5
  by_cases hf : fuse2 = 0
  · have HE : Hid (doD (datDisk y) (datFsOp o) = (datDisk y, 2)) := Lib.hid (doD_two HQ.out HOK.out (by show y.fuse = 0; rw [← HFE.out]; exact hf))
    have hfy : y.fuse = 0 := by rw [← HFE.out]; exact hf
    obtain ⟨a0, a1, a2, a3, _⟩ := HA4.out
    clear hf
    obtain ⟨c0, c1, c2, c3, _⟩ := HC4.out
    obtain ⟨b0, b1, b2, b3, bf⟩ := HB4.out
    have p0 := bf 0 (by omega)
    have p1 := bf 1 (by omega)
    have p2 := bf 2 (by omega)
    have p3 := bf 3 (by omega)
    clear bf
    go_wp2
    refine bodyPost_ret (v := .tuple #[.agg #[.int .i64 room2, .int .i64 fuse2, .slice fA fN fC, .slice qA qN qC], .int .i64 2]) (by simp [results, Try.results34, go_sem, b0, b1, b2, b3]) rfl ?_
    have hw9 := win_four w4 (w.heap.size + 2) (w.heap.size + 2) (w.heap.size + 3) (Nat.le_refl _) (by omega) (.int .i64 room2) (.int .i64 fuse2) (.slice fA fN fC) (.slice qA qN qC)
    have h9 := HO4.out.win hw9 (Or.inl hs2)
    exact RetDkI.same HE.out HD2.out (h9.lo_le (lo' := w.heap.size) (by omega)).whole (by rw [HBY.out]; exact hn) (BB4.trans (hw9.below (by omega) BB4.size))
  have HF0 : Hid (¬ (datDisk y).2.1 = 0) := Lib.hid (fun h => hf (by rw [HFE.out]; exact h))
  have hfy : ¬ y.fuse = 0 := by rw [← HFE.out]; exact hf
  have hfy2 : (y.fuse == 0) = false := by simpa using hfy
  obtain ⟨a0, a1, a2, a3, _⟩ := HA4.out
  obtain ⟨o0, o1, o2, o3, _⟩ := HP4.out
  go_wp2_with fail
  clear a0 a1 a2 a3 o0 o1 o2 o3 hfy hfy2
  refine (fits_any b n M o _ HM4.out HSO.out).mono ?_
  rintro e w5 ⟨rfl, hb5⟩
  have HM5 := Lib.hid (HM4.out.later hb5)
  rw [← HLM.out]
  have BB5 := BB4.trans (hb5.mono BB4.size)
  have HA5 := Lib.hid (HA4.out.later hb5)
  have HP5 := Lib.hid (HP4.out.later hb5)
  have HB5 := Lib.hid (HB4.out.later hb5)
  have HC5 := Lib.hid (HC4.out.later hb5)
  have HO5 := Lib.hid (HO4.out.below hb5)
  have HX5 := Lib.hid (goodFsOp_below HX4.out hb5 (Nat.le_refl _))
  have hs6 : W3.heap.size ≤ w5.heap.size := by have := hb5.size; omega
  clear HA4 HP4 HB4 HC4 HO4 HX4 hb5
  cases hft : fitsB (seenD (datDisk y)) (datFsOp o) with
  | false =>
    have HE : Hid (doD (datDisk y) (datFsOp o) = (datDisk y, 3)) := Lib.hid (doD_three HQ.out HOK.out HF0.out hft)
    clear hft
    obtain ⟨c0, c1, c2, c3, _⟩ := HC5.out
    obtain ⟨b0, b1, b2, b3, bf⟩ := HB5.out
    have p0 := bf 0 (by omega)
    have p1 := bf 1 (by omega)
    have p2 := bf 2 (by omega)
    have p3 := bf 3 (by omega)
    clear bf
    go_wp2
    refine bodyPost_ret (v := .tuple #[.agg #[.int .i64 room2, .int .i64 fuse2, .slice fA fN fC, .slice qA qN qC], .int .i64 3]) (by simp [results, Try.results34, go_sem, b0, b1, b2, b3]) rfl ?_
    have hw9 := win_four w5 (w.heap.size + 2) (w.heap.size + 2) (w.heap.size + 3) (Nat.le_refl _) (by omega) (.int .i64 room2) (.int .i64 fuse2) (.slice fA fN fC) (.slice qA qN qC)
    have h9 := HO5.out.win hw9 (Or.inl hs2)
    exact RetDkI.same HE.out HD2.out (h9.lo_le (lo' := w.heap.size) (by omega)).whole (by rw [HBY.out]; exact hn) (BB5.trans (hw9.below (by omega) BB5.size))
  | true =>
  have HFT := Lib.hid hft
  clear hft
  by_cases h60 : 60 ≤ y.waitN
  · have HE : Hid (doD (datDisk y) (datFsOp o) = (datDisk y, 4)) := Lib.hid (doD_four HQ.out HOK.out HF0.out HFT.out (by rw [HLW.out]; exact h60))
    obtain ⟨a0, a1, a2, a3, _⟩ := HA5.out
    have hw60 : (y.waitN : Int) = 60 := by omega
    clear h60
    obtain ⟨c0, c1, c2, c3, _⟩ := HC5.out
    obtain ⟨b0, b1, b2, b3, bf⟩ := HB5.out
    have p0 := bf 0 (by omega)
    have p1 := bf 1 (by omega)
    have p2 := bf 2 (by omega)
    have p3 := bf 3 (by omega)
    clear bf
    go_wp2
    refine bodyPost_ret (v := .tuple #[.agg #[.int .i64 room2, .int .i64 fuse2, .slice fA fN fC, .slice qA qN qC], .int .i64 4]) (by simp [results, Try.results34, go_sem, b0, b1, b2, b3]) rfl ?_
    have hw9 := win_four w5 (w.heap.size + 2) (w.heap.size + 2) (w.heap.size + 3) (Nat.le_refl _) (by omega) (.int .i64 room2) (.int .i64 fuse2) (.slice fA fN fC) (.slice qA qN qC)
    have h9 := HO5.out.win hw9 (Or.inl hs2)
    exact RetDkI.same HE.out HD2.out (h9.lo_le (lo' := w.heap.size) (by omega)).whole (by rw [HBY.out]; exact hn) (BB5.trans (hw9.below (by omega) BB5.size))
  have h60n : (datDisk y).2.2.2.length < 60 := by rw [HLW.out]; omega
  have H60 := Lib.hid h60n
  have hw60 : ¬ (y.waitN : Int) = 60 := by omega
  have hw61 : ((y.waitN : Int) == 60) = false := by simpa using hw60
  have hw62 : ¬ (60 : Int) ≤ (y.waitN : Int) := by omega
  obtain ⟨L, hL⟩ : ∃ L : Nat, y.room - (sizeF (seenD (datDisk y)) : Int) = (L : Int) := Int.eq_ofNat_of_zero_le (by omega)
  have HL : Hid ((datDisk y).1 - (sizeF (seenD (datDisk y)) : Int) = (L : Int)) := Lib.hid hL
  have HLL := Lib.hid hL
  clear hL h60 h60n
  obtain ⟨a0, a1, a2, a3, _⟩ := HA5.out
  obtain ⟨o0, o1, o2, o3, _⟩ := HP5.out
  obtain ⟨c0, c1, c2, c3, _⟩ := HC5.out
  go_wp2_with fail
  clear a0 a1 a2 a3 o0 o1 o2 o3 c0 c1 c2 c3 hw60 hw61 hw62
  refine (copyOp_any o _ HX5.out.2.2.2.1 (by omega)).mono ?_
  rintro e w6 ⟨⟨z0, z1, z2, A4, N4, C4, L4⟩, rfl, hdx, hnx, hown, hb6⟩
  simp only [datFsOp, Prod.mk.injEq] at hdx
  obtain ⟨rfl, rfl, rfl, rfl⟩ := hdx
  simp only at hnx hown
  subst hnx
  have BB6 := BB5.trans (hb6.mono BB5.size)
  have HA6 := Lib.hid (HA5.out.later hb6)
  have HP6 := Lib.hid (HP5.out.later hb6)
  have HB6 := Lib.hid (HB5.out.later hb6)
  have HC6 := Lib.hid (HC5.out.later hb6)
  have HO6 := Lib.hid (HO5.out.below hb6)
  have HM6 := Lib.hid (HM5.out.later hb6)
  have hs7 : w5.heap.size ≤ w6.heap.size := hb6.size
  have hAC : o.dataN ≤ C4 := (hown.rd (show ∀ x, (encI .u8 x).length = 1 from fun _ => rfl)).le
  have hCm : C4 ≤ maxLen := (hown.rd (show ∀ x, (encI .u8 x).length = 1 from fun _ => rfl)).max
  clear HA5 HP5 HB5 HC5 HO5 HM5 HX5 hb6
  obtain ⟨q0, q1, q2, q3, qf⟩ := HP6.out
  have qf0 := qf 0 (by omega)
  have qf1 := qf 1 (by omega)
  have qf2 := qf 2 (by omega)
  have qf3 := qf 3 (by omega)
  have hw7 := win_four w6 (w.heap.size + 1) (w.heap.size + 1) (w.heap.size + 2) (Nat.le_refl _) (by omega) (.int .i64 o.kind) (.string o.name) (.string o.dst) (.slice A4 o.dataN C4)
  have HA7 := Lib.hid (HA6.out.win hw7 (Or.inl (by omega)))
  have HP7 := Lib.hid ((((HP6.out.set0 (.int .i64 o.kind)).set1 (.string o.name)).set2 (.string o.dst)).set3 (.slice A4 o.dataN C4))
  have HB7 := Lib.hid (HB6.out.win hw7 (Or.inr (by omega)))
  have HC7 := Lib.hid (HC6.out.win hw7 (Or.inr (by omega)))
  have HO7 := Lib.hid (HO6.out.win hw7 (Or.inl (by omega)))
  have HM7 : Hid (FM ((((w6.setCell ⟨w.heap.size + 1, 0, Option.none⟩ (.int .i64 o.kind)).setCell ⟨w.heap.size + 1, 1, Option.none⟩ (.string o.name)).setCell ⟨w.heap.size + 1, 2, Option.none⟩ (.string o.dst)).setCell ⟨w.heap.size + 1, 3, Option.none⟩ (.slice A4 o.dataN C4)) b n M) := Lib.hid (by
    have hne : w.heap.size + 1 ≠ b := by omega
    have g0 := HP6.out.set0 (.int .i64 o.kind)
    have g1 := g0.set1 (.string o.name)
    have g2 := g1.set2 (.string o.dst)
    exact (((HM6.out.poke hne q0 (fun z h => by cases h)).poke hne g0.c1 (fun z h => by cases h)).poke hne g1.c2 (fun z h => by cases h)).poke hne g2.c3 (fun z h => by cases h))
  have BB7 := BB6.trans (hw7.below (by omega) BB6.size)
  have HW7 : Hid (OwnS (encI .u8) 1 5 w5.heap.size w6.heap.size ((((w6.setCell ⟨w.heap.size + 1, 0, none⟩ (.int .i64 o.kind)).setCell ⟨w.heap.size + 1, 1, none⟩ (.string o.name)).setCell ⟨w.heap.size + 1, 2, none⟩ (.string o.dst)).setCell ⟨w.heap.size + 1, 3, none⟩ (.slice A4 o.dataN C4)) A4 o.dataN C4 o.data) := Lib.hid (hown.win hw7 (Or.inl (by omega)))
  have hs8 : w6.heap.size = ((((w6.setCell ⟨w.heap.size + 1, 0, none⟩ (.int .i64 o.kind)).setCell ⟨w.heap.size + 1, 1, none⟩ (.string o.name)).setCell ⟨w.heap.size + 1, 2, none⟩ (.string o.dst)).setCell ⟨w.heap.size + 1, 3, none⟩ (.slice A4 o.dataN C4)).heap.size := by simp only [size_set]
  obtain ⟨a0, _, _, _, _⟩ := HA7.out
  clear HA6 HB6 HC6 HO6 hown hw7 qf HM6
  go_wp2_with fail
  clear q0 q1 q2 q3 qf0 qf1 qf2 qf3 HP6
  generalize (((w6.setCell ⟨w.heap.size + 1, 0, none⟩ (.int .i64 o.kind)).setCell ⟨w.heap.size + 1, 1, none⟩ (.string o.name)).setCell ⟨w.heap.size + 1, 2, none⟩ (.string o.dst)).setCell ⟨w.heap.size + 1, 3, none⟩ (.slice A4 o.dataN C4) = w7 at *
  have HSM : Hid (sizeM M = sizeF (seenD (datDisk y))) := Lib.hid (by rw [HLM.out]; exact sizeM_dat HM7.out)
  go_region_held3 (fun w' => w'.cell? ⟨w.heap.size, 0, none⟩ = some (.int .i64 y.room) ∧ Below w7.heap.size w7 w')
    (first | exact keepd1 (by assumption) | exact keep1 (by assumption) (Nat.le_refl _) (by assumption) | exact ⟨a0, (Below.refl _ _).drew⟩)
    (first | (go_at_call 61; refine (sizeM_any b n M _ (HM7.out.later (tail1 (by assumption))) (by rw [HSM.out]; omega)).mono ?_; rintro e w8 ⟨rfl, hb8⟩))
  obtain ⟨l0, hbw⟩ : w8.cell? ⟨w.heap.size, 0, none⟩ = some (.int .i64 y.room) ∧ Below w7.heap.size w7 w8 := by assumption
  have BB8 := BB7.trans (hbw.mono BB7.size)
  have HP8 := Lib.hid (HP7.out.later hbw)
  have HB8 := Lib.hid (HB7.out.later hbw)
  have HC8 := Lib.hid (HC7.out.later hbw)
  have HO8 := Lib.hid (HO7.out.below hbw)
  have HW8 := Lib.hid (HW7.out.below hbw)
  have hs9 : w6.heap.size ≤ w8.heap.size := by have := hbw.size; omega
  clear l0 hb8 a0 HA7 HP7 HB7 HC7 HO7 HW7 hbw
  rw [HSM.out, HLL.out, show IntKind.i64.wrap (L : Int) = (L : Int) from IntWalk.i64_in _ (by have := HLL.out; omega)]
  have hL2 : L ≤ 200000 := by have := HLL.out; omega
  by_cases hk : o.kind = 2
  case pos =>
    have HK := Lib.hid hk
    replace HP8 : Hid (OutC (w.heap.size + 1) (.int .i64 2) (.string o.name) (.string o.dst) (.slice A4 o.dataN C4) w8) := Lib.hid (by rw [← hk]; exact HP8.out)
    by_cases hlt : (L : Int) < (o.dataN : Int)
    case pos =>
      by_cases h0 : 0 < L
      case pos =>
        obtain ⟨q0, q1, q2, q3, qf⟩ := HP8.out
        have qf3 := qf 3 (by omega)
        clear qf
        have hw9' := Win.set (lo := w.heap.size + 1) (hi := w.heap.size + 2) w8 (w.heap.size + 1) 3 (.slice A4 L C4) (Nat.le_refl _) (by omega)
        have HP9 := Lib.hid (HP8.out.set3 (.slice A4 L C4))
        have HB9 := Lib.hid (HB8.out.win hw9' (Or.inr (by omega)))
        have HC9 := Lib.hid (HC8.out.win hw9' (Or.inr (by omega)))
        have HO9 := Lib.hid (HO8.out.win hw9' (Or.inl (by omega)))
        have HW9 := Lib.hid ((HW8.out.short (m := L) (by omega) (by omega)).win hw9' (Or.inl (by omega)))
        have BB9 := BB8.trans (hw9'.below (by omega) BB8.size)
        clear hw9'
        have hLC : (L : Int) ≤ (C4 : Int) := by omega
        have hL0 : ¬ (L : Int) < 0 := by omega
        have h0i : (0 : Int) < (L : Int) := by omega
        go_wp2_with fail
        refine (burn_any w3.heap.size (w8.setCell ⟨w.heap.size + 1, 3, none⟩ (.slice A4 L C4)) room2 fuse2 (.slice fA fN fC) (.slice qA qN qC) HC9.out r4 r5).mono ?_
        rintro e w10 ⟨rfl, hC10, hw10⟩
        have HC10 := Lib.hid hC10
        have HP10 := Lib.hid (HP9.out.win hw10 (Or.inl (by omega)))
        have HB10 := Lib.hid (HB9.out.win hw10 (Or.inl (by omega)))
        have HO10 := Lib.hid (HO9.out.win hw10 (Or.inr (Nat.le_refl _)))
        have HW10 := Lib.hid (HW9.out.win hw10 (Or.inl (by omega)))
        have BB10 := BB9.trans (hw10.below (by omega) BB9.size)
        have hs10 : w8.heap.size ≤ w10.heap.size := by have := hw10.size; simpa using this
        clear hC10 hw10
        obtain ⟨q0', q1', q2', q3', _⟩ := HP10.out
        have HE : Hid (doD (datDisk y) (datFsOp o) = (((datDisk y).1, burnI (datDisk y).2.1, (datDisk y).2.2.1, (datDisk y).2.2.2 ++ [datFsOp ⟨2, o.name, o.dst, A4, L, C4, o.data.take L⟩]), 5)) := Lib.hid (by
          rw [doD_part HQ.out HOK.out HF0.out HFT.out H60.out HL.out HK.out (by show L < o.data.length; rw [HOL.out]; omega) h0]
          rw [show (datFsOp o).1 = 2 from HK.out]
          rfl)
        obtain ⟨⟨m, hm1, hm2, hof, hoo⟩, htop⟩ := HO10.out
        have hoo' : OwnFsOpS m w3.heap.size w10 ⟨qA, qN, qC, qs⟩ := hoo
        have hof' : OwnFileS w2.heap.size m w10 ⟨fA, fN, fC, fs⟩ := hof
        have HOO := Lib.hid hoo'
        have HOF := Lib.hid hof'
        have hlv := (Below.refl w10.heap.size w10).alloc (Nat.le_refl _) (.cells #[.int .i64 2, .string o.name, .string o.dst, .slice A4 L C4] 27)
        have HOV := Lib.hid (hoo'.below hlv)
        have hnews := news_four w10 (.int .i64 2) (.string o.name) (.string o.dst) (.slice A4 L C4) 27
        have hsv : m ≤ (w10.alloc (.cells #[.int .i64 2, .string o.name, .string o.dst, .slice A4 L C4] 27)).heap.size := by have := HC10.out.lt; simp; omega
        obtain ⟨c0, c1, c2, c3, cf⟩ := HC10.out
        obtain ⟨o0, o1, o2, o3, _⟩ := HP10.out
        clear hoo hof hoo' hof' hlv
        go_wp2_with (at_builtin; refine wpList_append_lies _ (by rfl) _ _ _ (by rfl) m 27 i0 _ 4 64 Try.underlying32 hi hz0' hz1 hz2 rfl (by decide) (.slice qA qN qC) qN (qs.flatMap encFsOp) (by rfl) HOV.out.nest.row.own ⟨w10.heap.size, 0, none⟩ 1 1 [.int .i64 2, .string o.name, .string o.dst, .slice A4 L C4] (by rfl) (by rfl) hnews (one_fsOp ⟨2, o.name, o.dst, A4, L, C4, []⟩) (by decide) (by unfold maxLen; omega) (by omega) hsv _ rfl ?_)
        intro g9 C9 wz ho9 hg9 hor9 hlt9
        clear c0 c1 c2 c3 cf o0 o1 o2 o3 hnews hsv hlt9
        have hop := opPush (X := w3.heap.size) (H := w3.heap.size) (B := w5.heap.size) (x := ⟨2, o.name, o.dst, A4, L, C4, o.data.take L⟩) HOO.out HC10.out (Nat.le_refl _) (by omega) hm2 (HW10.out.grow (by omega) (Nat.le_refl _)) ho9 hg9 (by simpa using hor9) (by omega)
        obtain ⟨u1, u2, u3, u4, u5⟩ := hop
        have HU1 := Lib.hid u1
        have HU2 := Lib.hid u2
        have HU4 := Lib.hid u4
        have HU5 := Lib.hid (u5 _ _ HOF.out)
        have HBZ := Lib.hid (HB10.out.below u3 (by omega))
        have hsz9 : w10.heap.size ≤ wz.heap.size := u3.size
        clear u1 u2 u3 u4 u5 ho9 hg9 hor9
        obtain ⟨c0, c1, c2, c3, cf⟩ := HU2.out
        have f3 := cf 3 (by omega)
        obtain ⟨b0, b1, b2, b3, bf⟩ := HBZ.out
        have p0 := bf 0 (by omega)
        have p1 := bf 1 (by omega)
        have p2 := bf 2 (by omega)
        have p3 := bf 3 (by omega)
        clear bf cf
        go_wp2
        refine bodyPost_ret (v := .tuple #[.agg #[.int .i64 room2, .int .i64 (burnI fuse2), .slice fA fN fC, .slice (some ⟨g9, 0, none⟩) (qN + 1) C9], .int .i64 5]) (by simp [results, Try.results34, go_sem, b0, b1, b2, b3]) rfl ?_
        have hw9 := win_four (wz.setCell ⟨w3.heap.size, 3, none⟩ (.slice (some ⟨g9, 0, none⟩) (qN + 1) C9)) (w.heap.size + 2) (w.heap.size + 2) (w.heap.size + 3) (Nat.le_refl _) (by omega) (.int .i64 room2) (.int .i64 (burnI fuse2)) (.slice fA fN fC) (.slice (some ⟨g9, 0, none⟩) (qN + 1) C9)
        have h9 : OwnDisk w2.heap.size _ _ ⟨room2, burnI fuse2, fA, fN, fC, fs, some ⟨g9, 0, none⟩, qN + 1, C9, qs ++ [⟨2, o.name, o.dst, A4, L, C4, o.data.take L⟩]⟩ := ⟨⟨m, hm1, by rw [size_set]; have := HU2.out.lt; omega, HU5.out, HU1.out⟩, Nat.le_refl _⟩
        have h10 := h9.win hw9 (Or.inl hs2)
        have hb9 := BB10.trans (HU4.out.mono (by omega))
        refine RetDkI.more (y2 := (⟨room2, fuse2, fA, fN, fC, fs, qA, qN, qC, qs⟩ : DiskR)) (x := ⟨2, o.name, o.dst, A4, L, C4, o.data.take L⟩) HE.out HD2.out (h10.lo_le (lo' := w.heap.size) (by omega)).whole ?_ HRD.out HBY.out (hb9.trans (hw9.below (by omega) hb9.size))
        rw [HBY.out]
        have h12 := HNN.out
        show bulkDisk y + (o.name.size + o.dst.size + (o.data.take L).length) ≤ 1048576
        rw [List.length_take]
        omega
      case neg =>
        obtain ⟨q0, q1, q2, q3, qf⟩ := HP8.out
        have qf3 := qf 3 (by omega)
        clear qf
        have hw9' := Win.set (lo := w.heap.size + 1) (hi := w.heap.size + 2) w8 (w.heap.size + 1) 3 (.slice A4 L C4) (Nat.le_refl _) (by omega)
        have HP9 := Lib.hid (HP8.out.set3 (.slice A4 L C4))
        have HB9 := Lib.hid (HB8.out.win hw9' (Or.inr (by omega)))
        have HC9 := Lib.hid (HC8.out.win hw9' (Or.inr (by omega)))
        have HO9 := Lib.hid (HO8.out.win hw9' (Or.inl (by omega)))
        have HW9 := Lib.hid ((HW8.out.short (m := L) (by omega) (by omega)).win hw9' (Or.inl (by omega)))
        have BB9 := BB8.trans (hw9'.below (by omega) BB8.size)
        clear hw9'
        have hLC : (L : Int) ≤ (C4 : Int) := by omega
        have hL0 : ¬ (L : Int) < 0 := by omega
        go_wp2_with fail
        refine (burn_any w3.heap.size (w8.setCell ⟨w.heap.size + 1, 3, none⟩ (.slice A4 L C4)) room2 fuse2 (.slice fA fN fC) (.slice qA qN qC) HC9.out r4 r5).mono ?_
        rintro e w10 ⟨rfl, hC10, hw10⟩
        have HC10 := Lib.hid hC10
        have HP10 := Lib.hid (HP9.out.win hw10 (Or.inl (by omega)))
        have HB10 := Lib.hid (HB9.out.win hw10 (Or.inl (by omega)))
        have HO10 := Lib.hid (HO9.out.win hw10 (Or.inr (Nat.le_refl _)))
        have HW10 := Lib.hid (HW9.out.win hw10 (Or.inl (by omega)))
        have BB10 := BB9.trans (hw10.below (by omega) BB9.size)
        have hs10 : w8.heap.size ≤ w10.heap.size := by have := hw10.size; simpa using this
        clear hC10 hw10
        obtain ⟨q0', q1', q2', q3', _⟩ := HP10.out
        have HE : Hid (doD (datDisk y) (datFsOp o) = (((datDisk y).1, burnI (datDisk y).2.1, (datDisk y).2.2.1, (datDisk y).2.2.2), 5)) := Lib.hid (doD_none HQ.out HOK.out HF0.out HFT.out H60.out HL.out HK.out (by show L < o.data.length; rw [HOL.out]; omega) (by omega))
        have h00 : L = 0 := by omega
        subst h00
        obtain ⟨c0, c1, c2, c3, _⟩ := HC10.out
        obtain ⟨b0, b1, b2, b3, bf⟩ := HB10.out
        have p0 := bf 0 (by omega)
        have p1 := bf 1 (by omega)
        have p2 := bf 2 (by omega)
        have p3 := bf 3 (by omega)
        clear bf
        go_wp2
        refine bodyPost_ret (v := .tuple #[.agg #[.int .i64 room2, .int .i64 (burnI fuse2), .slice fA fN fC, .slice qA qN qC], .int .i64 5]) (by simp [results, Try.results34, go_sem, b0, b1, b2, b3]) rfl ?_
        have hw9 := win_four w10 (w.heap.size + 2) (w.heap.size + 2) (w.heap.size + 3) (Nat.le_refl _) (by omega) (.int .i64 room2) (.int .i64 (burnI fuse2)) (.slice fA fN fC) (.slice qA qN qC)
        have h9 := ((HO10.out.win hw9 (Or.inl hs2)).lo_le (lo' := w.heap.size) (by omega)).whole
        exact RetDkI.nil (y2 := (⟨room2, fuse2, fA, fN, fC, fs, qA, qN, qC, qs⟩ : DiskR)) HE.out HD2.out ⟨h9.mid, h9.top⟩ (by rw [HBY.out]; exact hn) (BB10.trans (hw9.below (by omega) BB10.size))
    case neg =>
      have HE : Hid (doD (datDisk y) (datFsOp o) = (((datDisk y).1, burnI (datDisk y).2.1, (datDisk y).2.2.1, (datDisk y).2.2.2 ++ [datFsOp ⟨2, o.name, o.dst, A4, o.dataN, C4, o.data⟩]), 0)) := Lib.hid (by
        rw [doD_all HQ.out HOK.out HF0.out HFT.out H60.out (by rw [HL.out]; show ¬ (o.kind = 2 ∧ (L : Int) < (o.data.length : Int)); rw [HOL.out]; exact fun h => hlt h.2)]
        rw [show datFsOp o = datFsOp ⟨2, o.name, o.dst, A4, o.dataN, C4, o.data⟩ from by unfold datFsOp; rw [HK.out]])
      have hltn : (o.dataN : Int) ≤ (L : Int) := by omega
      clear hlt
      have hn0 : (0 : Int) < (o.dataN : Int) := by have := opB_two HOK.out HK.out HOL.out; omega
      obtain ⟨q0, q1, q2, q3, _⟩ := HP8.out
      go_wp2_with fail
      refine (burn_any w3.heap.size w8 room2 fuse2 (.slice fA fN fC) (.slice qA qN qC) HC8.out r4 r5).mono ?_
      rintro e w10 ⟨rfl, hC10, hw10⟩
      have HC10 := Lib.hid hC10
      have HP10 := Lib.hid (HP8.out.win hw10 (Or.inl (by omega)))
      have HB10 := Lib.hid (HB8.out.win hw10 (Or.inl (by omega)))
      have HO10 := Lib.hid (HO8.out.win hw10 (Or.inr (Nat.le_refl _)))
      have HW10 := Lib.hid (HW8.out.win hw10 (Or.inl (by omega)))
      have BB10 := BB8.trans (hw10.below (by omega) BB8.size)
      have hs10 : w8.heap.size ≤ w10.heap.size := by have := hw10.size; simpa using this
      clear hC10 hw10
      obtain ⟨q0', q1', q2', q3', _⟩ := HP10.out
      obtain ⟨⟨m, hm1, hm2, hof, hoo⟩, htop⟩ := HO10.out
      have hoo' : OwnFsOpS m w3.heap.size w10 ⟨qA, qN, qC, qs⟩ := hoo
      have hof' : OwnFileS w2.heap.size m w10 ⟨fA, fN, fC, fs⟩ := hof
      have HOO := Lib.hid hoo'
      have HOF := Lib.hid hof'
      have hlv := (Below.refl w10.heap.size w10).alloc (Nat.le_refl _) (.cells #[.int .i64 2, .string o.name, .string o.dst, .slice A4 o.dataN C4] 27)
      have HOV := Lib.hid (hoo'.below hlv)
      have hnews := news_four w10 (.int .i64 2) (.string o.name) (.string o.dst) (.slice A4 o.dataN C4) 27
      have hsv : m ≤ (w10.alloc (.cells #[.int .i64 2, .string o.name, .string o.dst, .slice A4 o.dataN C4] 27)).heap.size := by have := HC10.out.lt; simp; omega
      obtain ⟨c0, c1, c2, c3, cf⟩ := HC10.out
      obtain ⟨o0, o1, o2, o3, _⟩ := HP10.out
      clear hoo hof hoo' hof' hlv
      go_wp2_with (at_builtin; refine wpList_append_lies _ (by rfl) _ _ _ (by rfl) m 27 i0 _ 4 64 Try.underlying32 hi hz0' hz1 hz2 rfl (by decide) (.slice qA qN qC) qN (qs.flatMap encFsOp) (by rfl) HOV.out.nest.row.own ⟨w10.heap.size, 0, none⟩ 1 1 [.int .i64 2, .string o.name, .string o.dst, .slice A4 o.dataN C4] (by rfl) (by rfl) hnews (one_fsOp ⟨2, o.name, o.dst, A4, o.dataN, C4, []⟩) (by decide) (by unfold maxLen; omega) (by omega) hsv _ rfl ?_)
      intro g9 C9 wz ho9 hg9 hor9 hlt9
      clear c0 c1 c2 c3 cf o0 o1 o2 o3 hnews hsv hlt9
      have hop := opPush (X := w3.heap.size) (H := w3.heap.size) (B := w5.heap.size) (x := ⟨2, o.name, o.dst, A4, o.dataN, C4, o.data⟩) HOO.out HC10.out (Nat.le_refl _) (by omega) hm2 (HW10.out.grow (by omega) (Nat.le_refl _)) ho9 hg9 (by simpa using hor9) (by omega)
      obtain ⟨u1, u2, u3, u4, u5⟩ := hop
      have HU1 := Lib.hid u1
      have HU2 := Lib.hid u2
      have HU4 := Lib.hid u4
      have HU5 := Lib.hid (u5 _ _ HOF.out)
      have HBZ := Lib.hid (HB10.out.below u3 (by omega))
      have hsz9 : w10.heap.size ≤ wz.heap.size := u3.size
      clear u1 u2 u3 u4 u5 ho9 hg9 hor9
      obtain ⟨c0, c1, c2, c3, cf⟩ := HU2.out
      have f3 := cf 3 (by omega)
      obtain ⟨b0, b1, b2, b3, bf⟩ := HBZ.out
      have p0 := bf 0 (by omega)
      have p1 := bf 1 (by omega)
      have p2 := bf 2 (by omega)
      have p3 := bf 3 (by omega)
      clear bf cf
      go_wp2
      refine bodyPost_ret (v := .tuple #[.agg #[.int .i64 room2, .int .i64 (burnI fuse2), .slice fA fN fC, .slice (some ⟨g9, 0, none⟩) (qN + 1) C9], .int .i64 0]) (by simp [results, Try.results34, go_sem, b0, b1, b2, b3]) rfl ?_
      have hw9 := win_four (wz.setCell ⟨w3.heap.size, 3, none⟩ (.slice (some ⟨g9, 0, none⟩) (qN + 1) C9)) (w.heap.size + 2) (w.heap.size + 2) (w.heap.size + 3) (Nat.le_refl _) (by omega) (.int .i64 room2) (.int .i64 (burnI fuse2)) (.slice fA fN fC) (.slice (some ⟨g9, 0, none⟩) (qN + 1) C9)
      have h9 : OwnDisk w2.heap.size _ _ ⟨room2, burnI fuse2, fA, fN, fC, fs, some ⟨g9, 0, none⟩, qN + 1, C9, qs ++ [⟨2, o.name, o.dst, A4, o.dataN, C4, o.data⟩]⟩ := ⟨⟨m, hm1, by rw [size_set]; have := HU2.out.lt; omega, HU5.out, HU1.out⟩, Nat.le_refl _⟩
      have h10 := h9.win hw9 (Or.inl hs2)
      have hb9 := BB10.trans (HU4.out.mono (by omega))
      refine RetDkI.more (y2 := (⟨room2, fuse2, fA, fN, fC, fs, qA, qN, qC, qs⟩ : DiskR)) (x := ⟨2, o.name, o.dst, A4, o.dataN, C4, o.data⟩) HE.out HD2.out (h10.lo_le (lo' := w.heap.size) (by omega)).whole ?_ HRD.out HBY.out (hb9.trans (hw9.below (by omega) hb9.size))
      rw [HBY.out]
      exact HNN.out
  case neg =>
    have HE : Hid (doD (datDisk y) (datFsOp o) = (((datDisk y).1, burnI (datDisk y).2.1, (datDisk y).2.2.1, (datDisk y).2.2.2 ++ [datFsOp ⟨o.kind, o.name, o.dst, A4, o.dataN, C4, o.data⟩]), 0)) := Lib.hid (by
      rw [doD_all HQ.out HOK.out HF0.out HFT.out H60.out (fun h => hk h.1)]
      rfl)
    have hk2 : (o.kind == 2) = false := by simpa using hk
    obtain ⟨q0, q1, q2, q3, _⟩ := HP8.out
    go_wp2_with fail
    refine (burn_any w3.heap.size w8 room2 fuse2 (.slice fA fN fC) (.slice qA qN qC) HC8.out r4 r5).mono ?_
    rintro e w10 ⟨rfl, hC10, hw10⟩
    have HC10 := Lib.hid hC10
    have HP10 := Lib.hid (HP8.out.win hw10 (Or.inl (by omega)))
    have HB10 := Lib.hid (HB8.out.win hw10 (Or.inl (by omega)))
    have HO10 := Lib.hid (HO8.out.win hw10 (Or.inr (Nat.le_refl _)))
    have HW10 := Lib.hid (HW8.out.win hw10 (Or.inl (by omega)))
    have BB10 := BB8.trans (hw10.below (by omega) BB8.size)
    have hs10 : w8.heap.size ≤ w10.heap.size := by have := hw10.size; simpa using this
    clear hC10 hw10
    obtain ⟨q0', q1', q2', q3', _⟩ := HP10.out
    obtain ⟨⟨m, hm1, hm2, hof, hoo⟩, htop⟩ := HO10.out
    have hoo' : OwnFsOpS m w3.heap.size w10 ⟨qA, qN, qC, qs⟩ := hoo
    have hof' : OwnFileS w2.heap.size m w10 ⟨fA, fN, fC, fs⟩ := hof
    have HOO := Lib.hid hoo'
    have HOF := Lib.hid hof'
    have hlv := (Below.refl w10.heap.size w10).alloc (Nat.le_refl _) (.cells #[.int .i64 o.kind, .string o.name, .string o.dst, .slice A4 o.dataN C4] 27)
    have HOV := Lib.hid (hoo'.below hlv)
    have hnews := news_four w10 (.int .i64 o.kind) (.string o.name) (.string o.dst) (.slice A4 o.dataN C4) 27
    have hsv : m ≤ (w10.alloc (.cells #[.int .i64 o.kind, .string o.name, .string o.dst, .slice A4 o.dataN C4] 27)).heap.size := by have := HC10.out.lt; simp; omega
    obtain ⟨c0, c1, c2, c3, cf⟩ := HC10.out
    obtain ⟨o0, o1, o2, o3, _⟩ := HP10.out
    clear hoo hof hoo' hof' hlv
    go_wp2_with (at_builtin; refine wpList_append_lies _ (by rfl) _ _ _ (by rfl) m 27 i0 _ 4 64 Try.underlying32 hi hz0' hz1 hz2 rfl (by decide) (.slice qA qN qC) qN (qs.flatMap encFsOp) (by rfl) HOV.out.nest.row.own ⟨w10.heap.size, 0, none⟩ 1 1 [.int .i64 o.kind, .string o.name, .string o.dst, .slice A4 o.dataN C4] (by rfl) (by rfl) hnews (one_fsOp ⟨o.kind, o.name, o.dst, A4, o.dataN, C4, []⟩) (by decide) (by unfold maxLen; omega) (by omega) hsv _ rfl ?_)
    intro g9 C9 wz ho9 hg9 hor9 hlt9
    clear c0 c1 c2 c3 cf o0 o1 o2 o3 hnews hsv hlt9
    have hop := opPush (X := w3.heap.size) (H := w3.heap.size) (B := w5.heap.size) (x := ⟨o.kind, o.name, o.dst, A4, o.dataN, C4, o.data⟩) HOO.out HC10.out (Nat.le_refl _) (by omega) hm2 (HW10.out.grow (by omega) (Nat.le_refl _)) ho9 hg9 (by simpa using hor9) (by omega)
    obtain ⟨u1, u2, u3, u4, u5⟩ := hop
    have HU1 := Lib.hid u1
    have HU2 := Lib.hid u2
    have HU4 := Lib.hid u4
    have HU5 := Lib.hid (u5 _ _ HOF.out)
    have HBZ := Lib.hid (HB10.out.below u3 (by omega))
    have hsz9 : w10.heap.size ≤ wz.heap.size := u3.size
    clear u1 u2 u3 u4 u5 ho9 hg9 hor9
    obtain ⟨c0, c1, c2, c3, cf⟩ := HU2.out
    have f3 := cf 3 (by omega)
    obtain ⟨b0, b1, b2, b3, bf⟩ := HBZ.out
    have p0 := bf 0 (by omega)
    have p1 := bf 1 (by omega)
    have p2 := bf 2 (by omega)
    have p3 := bf 3 (by omega)
    clear bf cf
    go_wp2
    refine bodyPost_ret (v := .tuple #[.agg #[.int .i64 room2, .int .i64 (burnI fuse2), .slice fA fN fC, .slice (some ⟨g9, 0, none⟩) (qN + 1) C9], .int .i64 0]) (by simp [results, Try.results34, go_sem, b0, b1, b2, b3]) rfl ?_
    have hw9 := win_four (wz.setCell ⟨w3.heap.size, 3, none⟩ (.slice (some ⟨g9, 0, none⟩) (qN + 1) C9)) (w.heap.size + 2) (w.heap.size + 2) (w.heap.size + 3) (Nat.le_refl _) (by omega) (.int .i64 room2) (.int .i64 (burnI fuse2)) (.slice fA fN fC) (.slice (some ⟨g9, 0, none⟩) (qN + 1) C9)
    have h9 : OwnDisk w2.heap.size _ _ ⟨room2, burnI fuse2, fA, fN, fC, fs, some ⟨g9, 0, none⟩, qN + 1, C9, qs ++ [⟨o.kind, o.name, o.dst, A4, o.dataN, C4, o.data⟩]⟩ := ⟨⟨m, hm1, by rw [size_set]; have := HU2.out.lt; omega, HU5.out, HU1.out⟩, Nat.le_refl _⟩
    have h10 := h9.win hw9 (Or.inl hs2)
    have hb9 := BB10.trans (HU4.out.mono (by omega))
    refine RetDkI.more (y2 := (⟨room2, fuse2, fA, fN, fC, fs, qA, qN, qC, qs⟩ : DiskR)) (x := ⟨o.kind, o.name, o.dst, A4, o.dataN, C4, o.data⟩) HE.out HD2.out (h10.lo_le (lo' := w.heap.size) (by omega)).whole ?_ HRD.out HBY.out (hb9.trans (hw9.below (by omega) hb9.size))
    rw [HBY.out]
    exact HNN.out
end Go.Proofs.Ytoodlmhnemamhaa

/- The law of DiskDo: what a drawn region leaves that turns both arguments, calls DiskDo and lays the disk into a box of its own (which may be laid ahead of the calls). -/
namespace Go.Proofs.Ytoodlmhnemamhaa
open Go.RowKit
structure MidD (w2 wx : World) (E : Nat) (W : DiskR) : Prop where
  box : OutC E (.int .i64 W.room) (.int .i64 W.fuse) (.slice W.filesA W.filesN W.filesC) (.slice W.waitA W.waitN W.waitC) wx
  own : OwnDisk w2.heap.size wx.heap.size wx W
  ge : w2.heap.size ≤ E
  bel : Below w2.heap.size w2 wx
theorem MidD.late {w2 w5 : World} {W : DiskR} {lo : Nat} (h : OwnDisk lo w5.heap.size w5 W) (hlo : w2.heap.size ≤ lo) (hb : Below w2.heap.size w2 w5) :
    MidD w2 (w5.alloc (.cells #[.int .i64 W.room, .int .i64 W.fuse, .slice W.filesA W.filesN W.filesC, .slice W.waitA W.waitN W.waitC] 34)) w5.heap.size W := by
  have ha := (Below.refl w5.heap.size w5).alloc (Nat.le_refl _) (.cells #[.int .i64 W.room, .int .i64 W.fuse, .slice W.filesA W.filesN W.filesC, .slice W.waitA W.waitN W.waitC] 34)
  exact ⟨OutC.mk0 w5 _ _ _ _ _, ((h.below ha).lo_le hlo).whole, hb.size, hb.trans (ha.mono hb.size)⟩
theorem MidD.early {w2 w5 : World} {W : DiskR} {lo E : Nat} {a b c d : Value} (h : OwnDisk lo w5.heap.size w5 W) (hE : E < lo) (hg : w2.heap.size ≤ E) (hx : OutC E a b c d w5) (hb : Below w2.heap.size w2 w5) :
    MidD w2 ((((w5.setCell ⟨E, 0, none⟩ (.int .i64 W.room)).setCell ⟨E, 1, none⟩ (.int .i64 W.fuse)).setCell ⟨E, 2, none⟩ (.slice W.filesA W.filesN W.filesC)).setCell ⟨E, 3, none⟩ (.slice W.waitA W.waitN W.waitC)) E W := by
  have hw := win_four w5 E E (E + 1) (Nat.le_refl _) (Nat.lt_succ_self _) (.int .i64 W.room) (.int .i64 W.fuse) (.slice W.filesA W.filesN W.filesC) (.slice W.waitA W.waitN W.waitC)
  exact ⟨(((hx.set0 _).set1 _).set2 _).set3 _, ((h.win hw (Or.inl hE)).lo_le (by omega)).whole, hg, hb.trans (hw.below hg hb.size)⟩
/-- The box as it is laid: zeros. -/
abbrev OutZ (E : Nat) (w : World) : Prop := OutC E (.int .i64 0) (.int .i64 0) (.slice none 0 0) (.slice none 0 0) w
theorem OutZ.new (w : World) : OutZ w.heap.size (w.alloc (.cells #[.int .i64 0, .int .i64 0, .slice none 0 0, .slice none 0 0] 34)) := OutC.mk0 w _ _ _ _ _
theorem OutZ.drew {E : Nat} {w : World} (h : OutZ E w) : OutZ E w.drew := OutC.later h (Below.refl _ _).drew
end Go.Proofs.Ytoodlmhnemamhaa

/- FnExactDiskDo: the walk of the law out of the contracts of what it calls. -/
namespace Go.Proofs.Ytoodlmhnemamhaa
open Go.RowKit
set_option linter.unusedVariables false in
set_option maxRecDepth 100000 in
set_option maxHeartbeats 6400000 in
theorem walk_FnExactDiskDo (y0 : DiskR) (y1 : FsOpR) (w : World) (g0 : goodDisk w y0) (g1 : goodFsOp w y1) :
    Calls Try.prog 9 #[.agg #[.int .i64 y0.room, .int .i64 y0.fuse, .slice y0.filesA y0.filesN y0.filesC, .slice y0.waitA y0.waitN y0.waitC], .agg #[.int .i64 y1.kind, .string y1.name, .string y1.dst, .slice y1.dataA y1.dataN y1.dataC]] w fun e w' => e = .returned (.bool true) ∧ Below w.heap.size w w' := by
  by_cases hg0 : bulkDisk y0 ≤ 1048576
  · by_cases hg1 : bulkDisk y0 + bulkFsOp y1 ≤ 1048576
    · have BB0 := Below.refl w.heap.size w
      have okY0 := goodDisk_ok g0
      have okY1 := goodFsOp_ok g1
      have hn0 : bulkDisk y0 ≤ 1048576 := by omega
      have hn1 : bulkFsOp y1 ≤ 1048576 := by omega
      go_enter Try.func9, Try.ntmps9
      have HL0 := Lib.hid (leftB_yes (left := 1048576) (n := bulkDisk y0) (by omega))
      have ha1 := (((Below.refl w.heap.size w).alloc (Nat.le_refl _) (.cells #[.int .i64 y0.room, .int .i64 y0.fuse, .slice y0.filesA y0.filesN y0.filesC, .slice y0.waitA y0.waitN y0.waitC] 43)).alloc (by simp) (.cells #[.int .i64 y1.kind, .string y1.name, .string y1.dst, .slice y1.dataA y1.dataN y1.dataC] 24))
      have BP1 := BB0.trans (ha1.mono BB0.size)
      go_wp2_with fail
      refine (szDisk_k y0 _ _ (rdDisk_below (goodDisk_rd g0) BP1 (Nat.le_refl _)) (goodDisk_str g0) (by omega) (by omega)).mono ?_
      rintro e w1 ⟨rfl, hb1⟩
      rw [HL0.out]
      have hx1 : Below w.heap.size w w1 := ha1.trans (hb1.mono ha1.size)
      have szz1 : w.heap.size + 2 ≤ w1.heap.size := by have := hb1.size; simp at this; omega
      obtain ⟨hc1, hf1⟩ := bcell hb1
      have c1_a0_0 : w1.cell? ⟨w.heap.size, 0, none⟩ = some (.int .i64 y0.room) := by rw [hc1 _ _ (by simp <;> omega)]; simp [go_sem]
      have c1_a0_1 : w1.cell? ⟨w.heap.size, 1, none⟩ = some (.int .i64 y0.fuse) := by rw [hc1 _ _ (by simp <;> omega)]; simp [go_sem]
      have c1_a0_2 : w1.cell? ⟨w.heap.size, 2, none⟩ = some (.slice y0.filesA y0.filesN y0.filesC) := by rw [hc1 _ _ (by simp <;> omega)]; simp [go_sem]
      have c1_a0_3 : w1.cell? ⟨w.heap.size, 3, none⟩ = some (.slice y0.waitA y0.waitN y0.waitC) := by rw [hc1 _ _ (by simp <;> omega)]; simp [go_sem]
      have c1_a1_0 : w1.cell? ⟨w.heap.size + 1, 0, none⟩ = some (.int .i64 y1.kind) := by rw [hc1 _ _ (by simp <;> omega)]; simp [go_sem]
      have c1_a1_1 : w1.cell? ⟨w.heap.size + 1, 1, none⟩ = some (.string y1.name) := by rw [hc1 _ _ (by simp <;> omega)]; simp [go_sem]
      have c1_a1_2 : w1.cell? ⟨w.heap.size + 1, 2, none⟩ = some (.string y1.dst) := by rw [hc1 _ _ (by simp <;> omega)]; simp [go_sem]
      have c1_a1_3 : w1.cell? ⟨w.heap.size + 1, 3, none⟩ = some (.slice y1.dataA y1.dataN y1.dataC) := by rw [hc1 _ _ (by simp <;> omega)]; simp [go_sem]
      clear hc1 hf1
      have BB1 := BB0.trans (hx1.mono BB0.size)
      have sz1 := hx1.size
      have HL1 := Lib.hid (leftB_yes (left := 1048576 - ((bulkDisk y0 : Nat) : Int)) (n := bulkFsOp y1) (by omega))
      go_wp2_with fail
      refine (szFsOp_k y1 _ _ (rdFsOp_below (goodFsOp_rd g1) BB1 (Nat.le_refl _)) (goodFsOp_str g1) (by omega) (by omega)).mono ?_
      rintro e w2 ⟨rfl, hb2⟩
      rw [HL1.out]
      have BB2 := BB1.trans (hb2.mono BB1.size)
      have sz2 := hb2.size
      have c2_a0_0 := cell_later hb2 c1_a0_0
      clear c1_a0_0
      have c2_a0_1 := cell_later hb2 c1_a0_1
      clear c1_a0_1
      have c2_a0_2 := cell_later hb2 c1_a0_2
      clear c1_a0_2
      have c2_a0_3 := cell_later hb2 c1_a0_3
      clear c1_a0_3
      have c2_a1_0 := cell_later hb2 c1_a1_0
      clear c1_a1_0
      have c2_a1_1 := cell_later hb2 c1_a1_1
      clear c1_a1_1
      have c2_a1_2 := cell_later hb2 c1_a1_2
      clear c1_a1_2
      have c2_a1_3 := cell_later hb2 c1_a1_3
      clear c1_a1_3
      go_upto_region 8 with fail
      go_cut [6, 7] from 27 to 34 (fun sa sb wx => ∃ (E : Nat) (X : DiskR), sa = .pointer (some ⟨E, 0, none⟩) ∧ sb = .int .i64 (doD (datDisk y0) (datFsOp y1)).2 ∧ Hid ((datDisk X = (doD (datDisk y0) (datFsOp y1)).1 ∧ bulkDisk X ≤ 2097152) ∧ MidD w2 wx E X))
      case first =>
        go_region_held3 (fun w' => w'.cell? ⟨w.heap.size, 0, none⟩ = some (.int .i64 y0.room) ∧ w'.cell? ⟨w.heap.size, 1, none⟩ = some (.int .i64 y0.fuse) ∧ w'.cell? ⟨w.heap.size, 2, none⟩ = some (.slice y0.filesA y0.filesN y0.filesC) ∧ w'.cell? ⟨w.heap.size, 3, none⟩ = some (.slice y0.waitA y0.waitN y0.waitC) ∧ w'.cell? ⟨w.heap.size + 1, 0, none⟩ = some (.int .i64 y1.kind) ∧ w'.cell? ⟨w.heap.size + 1, 1, none⟩ = some (.string y1.name) ∧ w'.cell? ⟨w.heap.size + 1, 2, none⟩ = some (.string y1.dst) ∧ w'.cell? ⟨w.heap.size + 1, 3, none⟩ = some (.slice y1.dataA y1.dataN y1.dataC) ∧ Below w2.heap.size w2 w') (first | (with_reducible exact keepd8 (by assumption)) | (with_reducible exact keep8 (by assumption) (Nat.le_refl _) (by assumption)) | (with_reducible exact keep8 ((Below.refl _ _).alloc (Nat.le_refl _) _) (Nat.le_refl _) (by assumption)) | (with_reducible exact ⟨c2_a0_0, c2_a0_1, c2_a0_2, c2_a0_3, c2_a1_0, c2_a1_1, c2_a1_2, c2_a1_3, Below.refl _ _⟩) | (with_reducible exact keepd8 ⟨c2_a0_0, c2_a0_1, c2_a0_2, c2_a0_3, c2_a1_0, c2_a1_1, c2_a1_2, c2_a1_3, Below.refl _ _⟩) | (with_reducible exact keepd8 (keep8 ((Below.refl _ _).alloc (Nat.le_refl _) _) (Nat.le_refl _) ⟨c2_a0_0, c2_a0_1, c2_a0_2, c2_a0_3, c2_a1_0, c2_a1_1, c2_a1_2, c2_a1_3, Below.refl _ _⟩)) | (with_reducible exact keep8 ((Below.refl _ _).alloc (Nat.le_refl _) _) (Nat.le_refl _) HSD.out) | (exact keep8 ((tail8 HSD.out).trans ((win_four wd _ _ _ (Nat.le_refl _) (Nat.lt_succ_self _) _ _ _ _).below (by omega) (by omega))) (Nat.le_refl _) ⟨c2_a0_0, c2_a0_1, c2_a0_2, c2_a0_3, c2_a1_0, c2_a1_1, c2_a1_2, c2_a1_3, Below.refl _ _⟩))
          (first
            | (go_at_call 22; (with_reducible refine (toDisk_k y0 _ (rdDisk_below (goodDisk_rd g0) (BB2.trans ((tail8 (by assumption) : Below w2.heap.size w2 _).mono BB2.size)) (Nat.le_refl _)) hn0).mono ?_); rintro e wa ⟨u0, rfl, hda, Ha, hka, hba⟩; have sa1 : w2.heap.size ≤ wa.heap.size := Nat.le_trans (tail8 (by assumption) : Below w2.heap.size w2 _).size hba.size; (first | (have hxa : Hid (OutZ w2.heap.size wa) := Lib.hid ((OutZ.new w2).drew.later hba)) | skip); skip)
            | (go_at_call 12; (refine (toFsOp_k y1 _ (rdFsOp_below (goodFsOp_rd g1) (BB2.trans ((tail8 (by assumption) : Below w2.heap.size w2 _).mono BB2.size)) (Nat.le_refl _)) hn1).mono ?_); rintro e wb ⟨u1, rfl, hdb, Hb, hkb, hbb⟩; have sb1 : wa.heap.size ≤ wb.heap.size := (by first | exact hbb.size | exact Nat.le_trans (Nat.le_of_lt (by simp)) hbb.size); (first | (have Ha2 := Ha.below hbb) | (have Ha2 := (Ha.below ((Below.refl _ _).alloc (Nat.le_refl _) _)).below hbb)); (first | (have hxb : Hid (OutZ w2.heap.size wb) := Lib.hid (hxa.out.later hbb)) | (have hyb : Hid (OutZ wa.heap.size wb) := Lib.hid ((OutZ.new wa).later hbb)) | skip); skip)
            | (go_at_call 33; (with_reducible refine (diskDo_spec_k u0 (datDisk y0) hda u1 (datFsOp y1) hdb _ (by first | exact Ha2.good (okDisk_dat okY0 hda) | exact (Ha2.below ((Below.refl _ _).alloc (Nat.le_refl _) _)).good (okDisk_dat okY0 hda)) (by first | exact Hb.good (okFsOp_dat okY1 hdb) | exact (Hb.below ((Below.refl _ _).alloc (Nat.le_refl _) _)).good (okFsOp_dat okY1 hdb)) (by rw [hka, hkb]; omega)).mono ?_); rintro e wd ⟨X, rfl, hdd, Hd, hkd, hbd⟩; have HSD := Lib.hid (keep8 hbd (Nat.le_refl _) (by assumption)); have sd1 : wb.heap.size ≤ wd.heap.size := (by first | exact hbd.size | exact Nat.le_trans (Nat.le_of_lt (by simp)) hbd.size); (first | (have HXD : Hid (OutZ w2.heap.size wd) := Lib.hid (hxb.out.later hbd)) | (have HXD : Hid (OutZ wa.heap.size wd) := Lib.hid (hyb.out.later hbd)) | (have HXD : Hid (OutZ wb.heap.size wd) := Lib.hid ((OutZ.new wb).later hbd)) | skip); (try obtain ⟨z0, z1, z2, z3, zf⟩ := HXD.out); (try have zf0 := zf 0 (by omega)); (try have zf1 := zf 1 (by omega)); (try have zf2 := zf 2 (by omega)); (try have zf3 := zf 3 (by omega)); (try clear zf); skip))
        all_goals
          have hbt : Below w2.heap.size w2 wd := (tail8 (by assumption) : Below w2.heap.size w2 wd)
          go_wp2_with fail
          go_meet
          first
            | exact ⟨_, X, rfl, rfl, Lib.hid ⟨⟨hdd, by omega⟩, MidD.late Hd (by first | (simp only [size_alloc]; omega) | omega) hbt⟩⟩
            | exact ⟨_, X, rfl, rfl, Lib.hid ⟨⟨hdd, by omega⟩, MidD.early Hd (by first | exact hxb.out.lt | exact hyb.out.lt | simp) (by omega) HXD.out hbt⟩⟩
      case rest =>
        obtain ⟨EW, W, rfl, rfl, HMW⟩ := hcut
        obtain ⟨w3, hw3⟩ : ∃ x : World, x = wc := ⟨wc, rfl⟩
        subst hw3
        have hb3 := HMW.out.2.bel
        have hkW := HMW.out.1.2
        have HDW := Lib.hid HMW.out.1.1
        have H3W := HMW.out.2.own
        have hgeW := HMW.out.2.ge
        have hltW := HMW.out.2.box.lt
        have BB3 := BB2.trans (hb3.mono BB2.size)
        have sz3 := hb3.size
        have c3_a0_0 := cell_later hb3 c2_a0_0
        clear c2_a0_0
        have c3_a0_1 := cell_later hb3 c2_a0_1
        clear c2_a0_1
        have c3_a0_2 := cell_later hb3 c2_a0_2
        clear c2_a0_2
        have c3_a0_3 := cell_later hb3 c2_a0_3
        clear c2_a0_3
        have c3_a1_0 := cell_later hb3 c2_a1_0
        clear c2_a1_0
        have c3_a1_1 := cell_later hb3 c2_a1_1
        clear c2_a1_1
        have c3_a1_2 := cell_later hb3 c2_a1_2
        clear c2_a1_2
        have c3_a1_3 := cell_later hb3 c2_a1_3
        clear c2_a1_3
        have c3_W_0 := HMW.out.2.box.c0
        have c3_W_1 := HMW.out.2.box.c1
        have c3_W_2 := HMW.out.2.box.c2
        have c3_W_3 := HMW.out.2.box.c3
        clear HMW
        go_wp2_with fail
        refine (toDisk_k y0 _ (rdDisk_below (goodDisk_rd g0) BB3 (Nat.le_refl _)) hn0).mono ?_
        rintro e w4 ⟨x0, rfl, hdx0, H4x0, hkx0, hb4⟩
        have BB4 := BB3.trans (hb4.mono BB3.size)
        have sz4 := hb4.size
        have H4W := H3W.below hb4
        clear H3W
        have c4_a0_0 := cell_later hb4 c3_a0_0
        clear c3_a0_0
        have c4_a0_1 := cell_later hb4 c3_a0_1
        clear c3_a0_1
        have c4_a0_2 := cell_later hb4 c3_a0_2
        clear c3_a0_2
        have c4_a0_3 := cell_later hb4 c3_a0_3
        clear c3_a0_3
        have c4_a1_0 := cell_later hb4 c3_a1_0
        clear c3_a1_0
        have c4_a1_1 := cell_later hb4 c3_a1_1
        clear c3_a1_1
        have c4_a1_2 := cell_later hb4 c3_a1_2
        clear c3_a1_2
        have c4_a1_3 := cell_later hb4 c3_a1_3
        clear c3_a1_3
        have c4_W_0 := cell_later hb4 c3_W_0
        clear c3_W_0
        have c4_W_1 := cell_later hb4 c3_W_1
        clear c3_W_1
        have c4_W_2 := cell_later hb4 c3_W_2
        clear c3_W_2
        have c4_W_3 := cell_later hb4 c3_W_3
        clear c3_W_3
        have HDx0 := Lib.hid hdx0
        clear hdx0
        have okx0 := okDisk_dat okY0 HDx0.out
        have hl5_a0_0 := World.block_lt_of_cell? _ _ c4_a0_0
        simp only at hl5_a0_0
        have hl5_a1_0 := World.block_lt_of_cell? _ _ c4_a1_0
        simp only at hl5_a1_0
        have hl5_W_0 := World.block_lt_of_cell? _ _ c4_W_0
        simp only at hl5_W_0
        have ha5 := ((Below.refl w4.heap.size w4).alloc (Nat.le_refl _) (.cells #[.int .i64 x0.room, .int .i64 x0.fuse, .slice x0.filesA x0.filesN x0.filesC, .slice x0.waitA x0.waitN x0.waitC] 34))
        have BP5 := BB4.trans (ha5.mono BB4.size)
        go_wp2_with fail
        refine (toFsOp_k y1 _ (rdFsOp_below (goodFsOp_rd g1) BP5 (Nat.le_refl _)) hn1).mono ?_
        rintro e w5 ⟨x1, rfl, hdx1, H5x1, hkx1, hb5⟩
        have hx5 : Below w4.heap.size w4 w5 := ha5.trans (hb5.mono ha5.size)
        have szz5 : w4.heap.size + 1 ≤ w5.heap.size := by have := hb5.size; simp at this; omega
        obtain ⟨hc5, hf5⟩ := bcell hb5
        have c5_x0_0 : w5.cell? ⟨w4.heap.size, 0, none⟩ = some (.int .i64 x0.room) := by rw [hc5 _ _ (by simp <;> omega)]; simp [go_sem]
        have c5_x0_1 : w5.cell? ⟨w4.heap.size, 1, none⟩ = some (.int .i64 x0.fuse) := by rw [hc5 _ _ (by simp <;> omega)]; simp [go_sem]
        have c5_x0_2 : w5.cell? ⟨w4.heap.size, 2, none⟩ = some (.slice x0.filesA x0.filesN x0.filesC) := by rw [hc5 _ _ (by simp <;> omega)]; simp [go_sem]
        have c5_x0_3 : w5.cell? ⟨w4.heap.size, 3, none⟩ = some (.slice x0.waitA x0.waitN x0.waitC) := by rw [hc5 _ _ (by simp <;> omega)]; simp [go_sem]
        clear hc5 hf5
        have BB5 := BB4.trans (hx5.mono BB4.size)
        have sz5 := hx5.size
        have H5W := H4W.below hx5
        clear H4W
        have H5x0 := H4x0.below hx5
        clear H4x0
        have c5_a0_0 := cell_later hx5 c4_a0_0
        clear c4_a0_0
        have c5_a0_1 := cell_later hx5 c4_a0_1
        clear c4_a0_1
        have c5_a0_2 := cell_later hx5 c4_a0_2
        clear c4_a0_2
        have c5_a0_3 := cell_later hx5 c4_a0_3
        clear c4_a0_3
        have c5_a1_0 := cell_later hx5 c4_a1_0
        clear c4_a1_0
        have c5_a1_1 := cell_later hx5 c4_a1_1
        clear c4_a1_1
        have c5_a1_2 := cell_later hx5 c4_a1_2
        clear c4_a1_2
        have c5_a1_3 := cell_later hx5 c4_a1_3
        clear c4_a1_3
        have c5_W_0 := cell_later hx5 c4_W_0
        clear c4_W_0
        have c5_W_1 := cell_later hx5 c4_W_1
        clear c4_W_1
        have c5_W_2 := cell_later hx5 c4_W_2
        clear c4_W_2
        have c5_W_3 := cell_later hx5 c4_W_3
        clear c4_W_3
        replace H5x1 := H5x1.lo_le (lo' := w4.heap.size + 1) (by simp)
        have HDx1 := Lib.hid hdx1
        clear hdx1
        have okx1 := okFsOp_dat okY1 HDx1.out
        have hl6_a0_0 := World.block_lt_of_cell? _ _ c5_a0_0
        simp only at hl6_a0_0
        have hl6_a1_0 := World.block_lt_of_cell? _ _ c5_a1_0
        simp only at hl6_a1_0
        have hl6_W_0 := World.block_lt_of_cell? _ _ c5_W_0
        simp only at hl6_W_0
        have hl6_x0_0 := World.block_lt_of_cell? _ _ c5_x0_0
        simp only at hl6_x0_0
        have ha6 := ((Below.refl w5.heap.size w5).alloc (Nat.le_refl _) (.cells #[.int .i64 x1.kind, .string x1.name, .string x1.dst, .slice x1.dataA x1.dataN x1.dataC] 27))
        have BP6 := BB5.trans (ha6.mono BB5.size)
        go_wp2_with fail
        refine (diskDo_impl_k x0 (datDisk y0) HDx0.out x1 (datFsOp y1) HDx1.out _ ((H5x0.below ha6).good okx0) ((H5x1.below ha6).good okx1) (by rw [hkx0, hkx1]; omega)).mono ?_
        rintro e w6 ⟨G, rfl, hdG, H6G, hkG, hb6⟩
        have hx6 : Below w5.heap.size w5 w6 := ha6.trans (hb6.mono ha6.size)
        have szz6 : w5.heap.size + 1 ≤ w6.heap.size := by have := hb6.size; simp at this; omega
        obtain ⟨hc6, hf6⟩ := bcell hb6
        have c6_x1_0 : w6.cell? ⟨w5.heap.size, 0, none⟩ = some (.int .i64 x1.kind) := by rw [hc6 _ _ (by simp <;> omega)]; simp [go_sem]
        have c6_x1_1 : w6.cell? ⟨w5.heap.size, 1, none⟩ = some (.string x1.name) := by rw [hc6 _ _ (by simp <;> omega)]; simp [go_sem]
        have c6_x1_2 : w6.cell? ⟨w5.heap.size, 2, none⟩ = some (.string x1.dst) := by rw [hc6 _ _ (by simp <;> omega)]; simp [go_sem]
        have c6_x1_3 : w6.cell? ⟨w5.heap.size, 3, none⟩ = some (.slice x1.dataA x1.dataN x1.dataC) := by rw [hc6 _ _ (by simp <;> omega)]; simp [go_sem]
        clear hc6 hf6
        have BB6 := BB5.trans (hx6.mono BB5.size)
        have sz6 := hx6.size
        have H6W := H5W.below hx6
        clear H5W
        have H6x0 := H5x0.below hx6
        clear H5x0
        have H6x1 := H5x1.below hx6
        clear H5x1
        have c6_a0_0 := cell_later hx6 c5_a0_0
        clear c5_a0_0
        have c6_a0_1 := cell_later hx6 c5_a0_1
        clear c5_a0_1
        have c6_a0_2 := cell_later hx6 c5_a0_2
        clear c5_a0_2
        have c6_a0_3 := cell_later hx6 c5_a0_3
        clear c5_a0_3
        have c6_a1_0 := cell_later hx6 c5_a1_0
        clear c5_a1_0
        have c6_a1_1 := cell_later hx6 c5_a1_1
        clear c5_a1_1
        have c6_a1_2 := cell_later hx6 c5_a1_2
        clear c5_a1_2
        have c6_a1_3 := cell_later hx6 c5_a1_3
        clear c5_a1_3
        have c6_W_0 := cell_later hx6 c5_W_0
        clear c5_W_0
        have c6_W_1 := cell_later hx6 c5_W_1
        clear c5_W_1
        have c6_W_2 := cell_later hx6 c5_W_2
        clear c5_W_2
        have c6_W_3 := cell_later hx6 c5_W_3
        clear c5_W_3
        have c6_x0_0 := cell_later hx6 c5_x0_0
        clear c5_x0_0
        have c6_x0_1 := cell_later hx6 c5_x0_1
        clear c5_x0_1
        have c6_x0_2 := cell_later hx6 c5_x0_2
        clear c5_x0_2
        have c6_x0_3 := cell_later hx6 c5_x0_3
        clear c5_x0_3
        replace H6G := H6G.lo_le (lo' := w5.heap.size + 1) (by simp)
        have HDG := Lib.hid hdG
        clear hdG
        have hl7_a0_0 := World.block_lt_of_cell? _ _ c6_a0_0
        simp only at hl7_a0_0
        have hl7_a1_0 := World.block_lt_of_cell? _ _ c6_a1_0
        simp only at hl7_a1_0
        have hl7_W_0 := World.block_lt_of_cell? _ _ c6_W_0
        simp only at hl7_W_0
        have hl7_x0_0 := World.block_lt_of_cell? _ _ c6_x0_0
        simp only at hl7_x0_0
        have hl7_x1_0 := World.block_lt_of_cell? _ _ c6_x1_0
        simp only at hl7_x1_0
        have ha7 := ((Below.refl w6.heap.size w6).alloc (Nat.le_refl _) (.cells #[.int .i64 G.room, .int .i64 G.fuse, .slice G.filesA G.filesN G.filesC, .slice G.waitA G.waitN G.waitC] 34))
        have BP7 := BB6.trans (ha7.mono BB6.size)
        go_wp2_with fail
        refine (eqDisk_k G W _ _ HDG.out HDW.out _ (H6G.below ha7).rd (H6W.below ha7).rd).mono ?_
        rintro e w7 ⟨rfl, hb7⟩
        have hx7 : Below w6.heap.size w6 w7 := ha7.trans (hb7.mono ha7.size)
        have szz7 : w6.heap.size + 1 ≤ w7.heap.size := by have := hb7.size; simp at this; omega
        obtain ⟨hc7, hf7⟩ := bcell hb7
        have c7_G_0 : w7.cell? ⟨w6.heap.size, 0, none⟩ = some (.int .i64 G.room) := by rw [hc7 _ _ (by simp <;> omega)]; simp [go_sem]
        have c7_G_1 : w7.cell? ⟨w6.heap.size, 1, none⟩ = some (.int .i64 G.fuse) := by rw [hc7 _ _ (by simp <;> omega)]; simp [go_sem]
        have c7_G_2 : w7.cell? ⟨w6.heap.size, 2, none⟩ = some (.slice G.filesA G.filesN G.filesC) := by rw [hc7 _ _ (by simp <;> omega)]; simp [go_sem]
        have c7_G_3 : w7.cell? ⟨w6.heap.size, 3, none⟩ = some (.slice G.waitA G.waitN G.waitC) := by rw [hc7 _ _ (by simp <;> omega)]; simp [go_sem]
        clear hc7 hf7
        have BB7 := BB6.trans (hx7.mono BB6.size)
        have sz7 := hx7.size
        have H7W := H6W.below hx7
        clear H6W
        have H7x0 := H6x0.below hx7
        clear H6x0
        have H7x1 := H6x1.below hx7
        clear H6x1
        have H7G := H6G.below hx7
        clear H6G
        have c7_a0_0 := cell_later hx7 c6_a0_0
        clear c6_a0_0
        have c7_a0_1 := cell_later hx7 c6_a0_1
        clear c6_a0_1
        have c7_a0_2 := cell_later hx7 c6_a0_2
        clear c6_a0_2
        have c7_a0_3 := cell_later hx7 c6_a0_3
        clear c6_a0_3
        have c7_a1_0 := cell_later hx7 c6_a1_0
        clear c6_a1_0
        have c7_a1_1 := cell_later hx7 c6_a1_1
        clear c6_a1_1
        have c7_a1_2 := cell_later hx7 c6_a1_2
        clear c6_a1_2
        have c7_a1_3 := cell_later hx7 c6_a1_3
        clear c6_a1_3
        have c7_W_0 := cell_later hx7 c6_W_0
        clear c6_W_0
        have c7_W_1 := cell_later hx7 c6_W_1
        clear c6_W_1
        have c7_W_2 := cell_later hx7 c6_W_2
        clear c6_W_2
        have c7_W_3 := cell_later hx7 c6_W_3
        clear c6_W_3
        have c7_x0_0 := cell_later hx7 c6_x0_0
        clear c6_x0_0
        have c7_x0_1 := cell_later hx7 c6_x0_1
        clear c6_x0_1
        have c7_x0_2 := cell_later hx7 c6_x0_2
        clear c6_x0_2
        have c7_x0_3 := cell_later hx7 c6_x0_3
        clear c6_x0_3
        have c7_x1_0 := cell_later hx7 c6_x1_0
        clear c6_x1_0
        have c7_x1_1 := cell_later hx7 c6_x1_1
        clear c6_x1_1
        have c7_x1_2 := cell_later hx7 c6_x1_2
        clear c6_x1_2
        have c7_x1_3 := cell_later hx7 c6_x1_3
        clear c6_x1_3
        go_wp2_with fail
        go_region_held3 (fun w' => w'.cell? ⟨w.heap.size, 0, none⟩ = some (.int .i64 y0.room) ∧ w'.cell? ⟨w.heap.size, 1, none⟩ = some (.int .i64 y0.fuse) ∧ w'.cell? ⟨w.heap.size, 2, none⟩ = some (.slice y0.filesA y0.filesN y0.filesC) ∧ w'.cell? ⟨w.heap.size, 3, none⟩ = some (.slice y0.waitA y0.waitN y0.waitC) ∧ w'.cell? ⟨w4.heap.size, 0, none⟩ = some (.int .i64 x0.room) ∧ w'.cell? ⟨w4.heap.size, 1, none⟩ = some (.int .i64 x0.fuse) ∧ w'.cell? ⟨w4.heap.size, 2, none⟩ = some (.slice x0.filesA x0.filesN x0.filesC) ∧ w'.cell? ⟨w4.heap.size, 3, none⟩ = some (.slice x0.waitA x0.waitN x0.waitC) ∧ Below w7.heap.size w7 w') (first | exact keepd8 (by assumption) | exact keep8 (by assumption) (Nat.le_refl _) (by assumption) | exact ⟨c7_a0_0, c7_a0_1, c7_a0_2, c7_a0_3, c7_x0_0, c7_x0_1, c7_x0_2, c7_x0_3, (Below.refl _ _).drew⟩) (first | (go_at_call 22; refine (toDisk_k y0 _ (rdDisk_below (goodDisk_rd g0) (BB7.trans ((tail8 (by assumption) : Below w7.heap.size w7 _).mono BB7.size)) (Nat.le_refl _)) hn0).mono ?_; rintro e wa ⟨t, rfl, hdt, Ht, hkt, hba⟩) | (go_at_call 17; refine (eqDisk_k x0 t _ _ HDx0.out hdt _ (H7x0.below (tail8 (by assumption) : Below w7.heap.size w7 _)).rd Ht.rd).mono ?_; rintro e wb ⟨rfl, hbb⟩))
        obtain ⟨w8, hw8⟩ : ∃ x : World, x = wb := ⟨wb, rfl⟩
        subst hw8
        have hb8 : Below w7.heap.size w7 w8 := tail8 (by assumption)
        have BB8 := BB7.trans (hb8.mono BB7.size)
        have sz8 := hb8.size
        have H8W := H7W.below hb8
        clear H7W
        have H8x0 := H7x0.below hb8
        clear H7x0
        have H8x1 := H7x1.below hb8
        clear H7x1
        have H8G := H7G.below hb8
        clear H7G
        have c8_a0_0 := cell_later hb8 c7_a0_0
        clear c7_a0_0
        have c8_a0_1 := cell_later hb8 c7_a0_1
        clear c7_a0_1
        have c8_a0_2 := cell_later hb8 c7_a0_2
        clear c7_a0_2
        have c8_a0_3 := cell_later hb8 c7_a0_3
        clear c7_a0_3
        have c8_a1_0 := cell_later hb8 c7_a1_0
        clear c7_a1_0
        have c8_a1_1 := cell_later hb8 c7_a1_1
        clear c7_a1_1
        have c8_a1_2 := cell_later hb8 c7_a1_2
        clear c7_a1_2
        have c8_a1_3 := cell_later hb8 c7_a1_3
        clear c7_a1_3
        have c8_W_0 := cell_later hb8 c7_W_0
        clear c7_W_0
        have c8_W_1 := cell_later hb8 c7_W_1
        clear c7_W_1
        have c8_W_2 := cell_later hb8 c7_W_2
        clear c7_W_2
        have c8_W_3 := cell_later hb8 c7_W_3
        clear c7_W_3
        have c8_x0_0 := cell_later hb8 c7_x0_0
        clear c7_x0_0
        have c8_x0_1 := cell_later hb8 c7_x0_1
        clear c7_x0_1
        have c8_x0_2 := cell_later hb8 c7_x0_2
        clear c7_x0_2
        have c8_x0_3 := cell_later hb8 c7_x0_3
        clear c7_x0_3
        have c8_x1_0 := cell_later hb8 c7_x1_0
        clear c7_x1_0
        have c8_x1_1 := cell_later hb8 c7_x1_1
        clear c7_x1_1
        have c8_x1_2 := cell_later hb8 c7_x1_2
        clear c7_x1_2
        have c8_x1_3 := cell_later hb8 c7_x1_3
        clear c7_x1_3
        have c8_G_0 := cell_later hb8 c7_G_0
        clear c7_G_0
        have c8_G_1 := cell_later hb8 c7_G_1
        clear c7_G_1
        have c8_G_2 := cell_later hb8 c7_G_2
        clear c7_G_2
        have c8_G_3 := cell_later hb8 c7_G_3
        clear c7_G_3
        skip
        go_wp2_with fail
        go_region_held3 (fun w' => w'.cell? ⟨w.heap.size + 1, 0, none⟩ = some (.int .i64 y1.kind) ∧ w'.cell? ⟨w.heap.size + 1, 1, none⟩ = some (.string y1.name) ∧ w'.cell? ⟨w.heap.size + 1, 2, none⟩ = some (.string y1.dst) ∧ w'.cell? ⟨w.heap.size + 1, 3, none⟩ = some (.slice y1.dataA y1.dataN y1.dataC) ∧ w'.cell? ⟨w5.heap.size, 0, none⟩ = some (.int .i64 x1.kind) ∧ w'.cell? ⟨w5.heap.size, 1, none⟩ = some (.string x1.name) ∧ w'.cell? ⟨w5.heap.size, 2, none⟩ = some (.string x1.dst) ∧ w'.cell? ⟨w5.heap.size, 3, none⟩ = some (.slice x1.dataA x1.dataN x1.dataC) ∧ Below w8.heap.size w8 w') (first | exact keepd8 (by assumption) | exact keep8 (by assumption) (Nat.le_refl _) (by assumption) | exact ⟨c8_a1_0, c8_a1_1, c8_a1_2, c8_a1_3, c8_x1_0, c8_x1_1, c8_x1_2, c8_x1_3, (Below.refl _ _).drew⟩) (first | (go_at_call 12; refine (toFsOp_k y1 _ (rdFsOp_below (goodFsOp_rd g1) (BB8.trans ((tail8 (by assumption) : Below w8.heap.size w8 _).mono BB8.size)) (Nat.le_refl _)) hn1).mono ?_; rintro e wa ⟨t, rfl, hdt, Ht, hkt, hba⟩) | (go_at_call 14; refine (eqFsOp_k x1 t _ _ HDx1.out hdt _ (H8x1.below (tail8 (by assumption) : Below w8.heap.size w8 _)).rd Ht.rd).mono ?_; rintro e wb ⟨rfl, hbb⟩))
        obtain ⟨w9, hw9⟩ : ∃ x : World, x = wb := ⟨wb, rfl⟩
        subst hw9
        have hb9 : Below w8.heap.size w8 w9 := tail8 (by assumption)
        have BB9 := BB8.trans (hb9.mono BB8.size)
        have sz9 := hb9.size
        have H9W := H8W.below hb9
        clear H8W
        have H9x0 := H8x0.below hb9
        clear H8x0
        have H9x1 := H8x1.below hb9
        clear H8x1
        have H9G := H8G.below hb9
        clear H8G
        have c9_a0_0 := cell_later hb9 c8_a0_0
        clear c8_a0_0
        have c9_a0_1 := cell_later hb9 c8_a0_1
        clear c8_a0_1
        have c9_a0_2 := cell_later hb9 c8_a0_2
        clear c8_a0_2
        have c9_a0_3 := cell_later hb9 c8_a0_3
        clear c8_a0_3
        have c9_a1_0 := cell_later hb9 c8_a1_0
        clear c8_a1_0
        have c9_a1_1 := cell_later hb9 c8_a1_1
        clear c8_a1_1
        have c9_a1_2 := cell_later hb9 c8_a1_2
        clear c8_a1_2
        have c9_a1_3 := cell_later hb9 c8_a1_3
        clear c8_a1_3
        have c9_W_0 := cell_later hb9 c8_W_0
        clear c8_W_0
        have c9_W_1 := cell_later hb9 c8_W_1
        clear c8_W_1
        have c9_W_2 := cell_later hb9 c8_W_2
        clear c8_W_2
        have c9_W_3 := cell_later hb9 c8_W_3
        clear c8_W_3
        have c9_x0_0 := cell_later hb9 c8_x0_0
        clear c8_x0_0
        have c9_x0_1 := cell_later hb9 c8_x0_1
        clear c8_x0_1
        have c9_x0_2 := cell_later hb9 c8_x0_2
        clear c8_x0_2
        have c9_x0_3 := cell_later hb9 c8_x0_3
        clear c8_x0_3
        have c9_x1_0 := cell_later hb9 c8_x1_0
        clear c8_x1_0
        have c9_x1_1 := cell_later hb9 c8_x1_1
        clear c8_x1_1
        have c9_x1_2 := cell_later hb9 c8_x1_2
        clear c8_x1_2
        have c9_x1_3 := cell_later hb9 c8_x1_3
        clear c8_x1_3
        have c9_G_0 := cell_later hb9 c8_G_0
        clear c8_G_0
        have c9_G_1 := cell_later hb9 c8_G_1
        clear c8_G_1
        have c9_G_2 := cell_later hb9 c8_G_2
        clear c8_G_2
        have c9_G_3 := cell_later hb9 c8_G_3
        clear c8_G_3
        skip
        replace hkx0 : bulkDisk x0 ≤ 1048576 := by rw [hkx0]; exact hn0
        have cn0 := cntDisk_own H9x0 hkx0
        replace hkx1 : bulkFsOp x1 ≤ 1048576 := by rw [hkx1]; exact hn1
        have cn1 := cntFsOp_own H9x1 hkx1
        go_wp2_with fail
        refine (markDisk_k x0 (1) _ _ _ H9x0 (Nat.le_trans hkx0 (by decide)) (by omega) (by omega)).mono ?_
        rintro e w10 ⟨rfl, HE10x0, hb10⟩
        have BB10 := BB9.trans (hb10.below (B := w.heap.size) (by omega) BB9.size)
        have sz10 := hb10.size
        have H10W := H9W.win hb10 (by omega)
        clear H9W
        have H10x1 := H9x1.win hb10 (by omega)
        clear H9x1
        have H10G := H9G.win hb10 (by omega)
        clear H9G
        have c10_a0_0 := cell_win hb10 c9_a0_0 (by omega)
        clear c9_a0_0
        have c10_a0_1 := cell_win hb10 c9_a0_1 (by omega)
        clear c9_a0_1
        have c10_a0_2 := cell_win hb10 c9_a0_2 (by omega)
        clear c9_a0_2
        have c10_a0_3 := cell_win hb10 c9_a0_3 (by omega)
        clear c9_a0_3
        have c10_a1_0 := cell_win hb10 c9_a1_0 (by omega)
        clear c9_a1_0
        have c10_a1_1 := cell_win hb10 c9_a1_1 (by omega)
        clear c9_a1_1
        have c10_a1_2 := cell_win hb10 c9_a1_2 (by omega)
        clear c9_a1_2
        have c10_a1_3 := cell_win hb10 c9_a1_3 (by omega)
        clear c9_a1_3
        have c10_W_0 := cell_win hb10 c9_W_0 (by omega)
        clear c9_W_0
        have c10_W_1 := cell_win hb10 c9_W_1 (by omega)
        clear c9_W_1
        have c10_W_2 := cell_win hb10 c9_W_2 (by omega)
        clear c9_W_2
        have c10_W_3 := cell_win hb10 c9_W_3 (by omega)
        clear c9_W_3
        have c10_x0_0 := cell_win hb10 c9_x0_0 (by omega)
        clear c9_x0_0
        have c10_x0_1 := cell_win hb10 c9_x0_1 (by omega)
        clear c9_x0_1
        have c10_x0_2 := cell_win hb10 c9_x0_2 (by omega)
        clear c9_x0_2
        have c10_x0_3 := cell_win hb10 c9_x0_3 (by omega)
        clear c9_x0_3
        have c10_x1_0 := cell_win hb10 c9_x1_0 (by omega)
        clear c9_x1_0
        have c10_x1_1 := cell_win hb10 c9_x1_1 (by omega)
        clear c9_x1_1
        have c10_x1_2 := cell_win hb10 c9_x1_2 (by omega)
        clear c9_x1_2
        have c10_x1_3 := cell_win hb10 c9_x1_3 (by omega)
        clear c9_x1_3
        have c10_G_0 := cell_win hb10 c9_G_0 (by omega)
        clear c9_G_0
        have c10_G_1 := cell_win hb10 c9_G_1 (by omega)
        clear c9_G_1
        have c10_G_2 := cell_win hb10 c9_G_2 (by omega)
        clear c9_G_2
        have c10_G_3 := cell_win hb10 c9_G_3 (by omega)
        clear c9_G_3
        go_wp2_with fail
        refine (markFsOp_k x1 (1 + (cntDisk x0 : Int)) _ _ _ H10x1 hkx1 (by omega) (by omega)).mono ?_
        rintro e w11 ⟨rfl, HE11x1, hb11⟩
        have BB11 := BB10.trans (hb11.below (B := w.heap.size) (by omega) BB10.size)
        have sz11 := hb11.size
        have H11W := H10W.win hb11 (by omega)
        clear H10W
        have H11G := H10G.win hb11 (by omega)
        clear H10G
        have c11_a0_0 := cell_win hb11 c10_a0_0 (by omega)
        clear c10_a0_0
        have c11_a0_1 := cell_win hb11 c10_a0_1 (by omega)
        clear c10_a0_1
        have c11_a0_2 := cell_win hb11 c10_a0_2 (by omega)
        clear c10_a0_2
        have c11_a0_3 := cell_win hb11 c10_a0_3 (by omega)
        clear c10_a0_3
        have c11_a1_0 := cell_win hb11 c10_a1_0 (by omega)
        clear c10_a1_0
        have c11_a1_1 := cell_win hb11 c10_a1_1 (by omega)
        clear c10_a1_1
        have c11_a1_2 := cell_win hb11 c10_a1_2 (by omega)
        clear c10_a1_2
        have c11_a1_3 := cell_win hb11 c10_a1_3 (by omega)
        clear c10_a1_3
        have c11_W_0 := cell_win hb11 c10_W_0 (by omega)
        clear c10_W_0
        have c11_W_1 := cell_win hb11 c10_W_1 (by omega)
        clear c10_W_1
        have c11_W_2 := cell_win hb11 c10_W_2 (by omega)
        clear c10_W_2
        have c11_W_3 := cell_win hb11 c10_W_3 (by omega)
        clear c10_W_3
        have c11_x1_0 := cell_win hb11 c10_x1_0 (by omega)
        clear c10_x1_0
        have c11_x1_1 := cell_win hb11 c10_x1_1 (by omega)
        clear c10_x1_1
        have c11_x1_2 := cell_win hb11 c10_x1_2 (by omega)
        clear c10_x1_2
        have c11_x1_3 := cell_win hb11 c10_x1_3 (by omega)
        clear c10_x1_3
        have c11_G_0 := cell_win hb11 c10_G_0 (by omega)
        clear c10_G_0
        have c11_G_1 := cell_win hb11 c10_G_1 (by omega)
        clear c10_G_1
        have c11_G_2 := cell_win hb11 c10_G_2 (by omega)
        clear c10_G_2
        have c11_G_3 := cell_win hb11 c10_G_3 (by omega)
        clear c10_G_3
        go_wp2_with fail
        refine (eqDisk_k G W _ _ HDG.out HDW.out _ H11G.rd H11W.rd).mono ?_
        rintro e w12 ⟨rfl, hb12⟩
        have BB12 := BB11.trans (hb12.mono BB11.size)
        have sz12 := hb12.size
        have H12W := H11W.below hb12
        clear H11W
        have H12G := H11G.below hb12
        clear H11G
        have c12_a0_0 := cell_later hb12 c11_a0_0
        clear c11_a0_0
        have c12_a0_1 := cell_later hb12 c11_a0_1
        clear c11_a0_1
        have c12_a0_2 := cell_later hb12 c11_a0_2
        clear c11_a0_2
        have c12_a0_3 := cell_later hb12 c11_a0_3
        clear c11_a0_3
        have c12_a1_0 := cell_later hb12 c11_a1_0
        clear c11_a1_0
        have c12_a1_1 := cell_later hb12 c11_a1_1
        clear c11_a1_1
        have c12_a1_2 := cell_later hb12 c11_a1_2
        clear c11_a1_2
        have c12_a1_3 := cell_later hb12 c11_a1_3
        clear c11_a1_3
        have c12_W_0 := cell_later hb12 c11_W_0
        clear c11_W_0
        have c12_W_1 := cell_later hb12 c11_W_1
        clear c11_W_1
        have c12_W_2 := cell_later hb12 c11_W_2
        clear c11_W_2
        have c12_W_3 := cell_later hb12 c11_W_3
        clear c11_W_3
        have c12_G_0 := cell_later hb12 c11_G_0
        clear c11_G_0
        have c12_G_1 := cell_later hb12 c11_G_1
        clear c11_G_1
        have c12_G_2 := cell_later hb12 c11_G_2
        clear c11_G_2
        have c12_G_3 := cell_later hb12 c11_G_3
        clear c11_G_3
        go_wp2_with fail
        refine (markDisk_k G (1) _ _ _ H12G (Nat.le_trans hkG (by decide)) (by omega) (by omega)).mono ?_
        rintro e w13 ⟨rfl, HE13G, hb13⟩
        have BB13 := BB12.trans (hb13.below (B := w.heap.size) (by omega) BB12.size)
        have sz13 := hb13.size
        have H13W := H12W.win hb13 (by omega)
        clear H12W
        have c13_a0_0 := cell_win hb13 c12_a0_0 (by omega)
        clear c12_a0_0
        have c13_a0_1 := cell_win hb13 c12_a0_1 (by omega)
        clear c12_a0_1
        have c13_a0_2 := cell_win hb13 c12_a0_2 (by omega)
        clear c12_a0_2
        have c13_a0_3 := cell_win hb13 c12_a0_3 (by omega)
        clear c12_a0_3
        have c13_a1_0 := cell_win hb13 c12_a1_0 (by omega)
        clear c12_a1_0
        have c13_a1_1 := cell_win hb13 c12_a1_1 (by omega)
        clear c12_a1_1
        have c13_a1_2 := cell_win hb13 c12_a1_2 (by omega)
        clear c12_a1_2
        have c13_a1_3 := cell_win hb13 c12_a1_3 (by omega)
        clear c12_a1_3
        have c13_W_0 := cell_win hb13 c12_W_0 (by omega)
        clear c12_W_0
        have c13_W_1 := cell_win hb13 c12_W_1 (by omega)
        clear c12_W_1
        have c13_W_2 := cell_win hb13 c12_W_2 (by omega)
        clear c12_W_2
        have c13_W_3 := cell_win hb13 c12_W_3 (by omega)
        clear c12_W_3
        have c13_G_0 := cell_win hb13 c12_G_0 (by omega)
        clear c12_G_0
        have c13_G_1 := cell_win hb13 c12_G_1 (by omega)
        clear c12_G_1
        have c13_G_2 := cell_win hb13 c12_G_2 (by omega)
        clear c12_G_2
        have c13_G_3 := cell_win hb13 c12_G_3 (by omega)
        clear c12_G_3
        go_wp2_with fail
        refine (heldDisk_k G 1 _ HE13G (by omega) (by omega)).mono ?_
        rintro e w14 ⟨rfl, hb14⟩
        have BB14 := BB13.trans (hb14.mono BB13.size)
        have sz14 := hb14.size
        have H14W := H13W.below hb14
        clear H13W
        have H14G := HE13G.below hb14
        clear HE13G
        have c14_a0_0 := cell_later hb14 c13_a0_0
        clear c13_a0_0
        have c14_a0_1 := cell_later hb14 c13_a0_1
        clear c13_a0_1
        have c14_a0_2 := cell_later hb14 c13_a0_2
        clear c13_a0_2
        have c14_a0_3 := cell_later hb14 c13_a0_3
        clear c13_a0_3
        have c14_a1_0 := cell_later hb14 c13_a1_0
        clear c13_a1_0
        have c14_a1_1 := cell_later hb14 c13_a1_1
        clear c13_a1_1
        have c14_a1_2 := cell_later hb14 c13_a1_2
        clear c13_a1_2
        have c14_a1_3 := cell_later hb14 c13_a1_3
        clear c13_a1_3
        have c14_W_0 := cell_later hb14 c13_W_0
        clear c13_W_0
        have c14_W_1 := cell_later hb14 c13_W_1
        clear c13_W_1
        have c14_W_2 := cell_later hb14 c13_W_2
        clear c13_W_2
        have c14_W_3 := cell_later hb14 c13_W_3
        clear c13_W_3
        have c14_G_0 := cell_later hb14 c13_G_0
        clear c13_G_0
        have c14_G_1 := cell_later hb14 c13_G_1
        clear c13_G_1
        have c14_G_2 := cell_later hb14 c13_G_2
        clear c13_G_2
        have c14_G_3 := cell_later hb14 c13_G_3
        clear c13_G_3
        go_upto_region 31 with fail
        go_cut [15, 16] from 94 to 101 (fun sa sb wx => ∃ (E : Nat) (X : DiskR), sa = .pointer (some ⟨E, 0, none⟩) ∧ sb = .int .i64 (doD (datDisk y0) (datFsOp y1)).2 ∧ Hid ((datDisk X = (doD (datDisk y0) (datFsOp y1)).1 ∧ bulkDisk X ≤ 2097152) ∧ MidD w14 wx E X))
        case first =>
          go_region_held3 (fun w' => w'.cell? ⟨w.heap.size, 0, none⟩ = some (.int .i64 y0.room) ∧ w'.cell? ⟨w.heap.size, 1, none⟩ = some (.int .i64 y0.fuse) ∧ w'.cell? ⟨w.heap.size, 2, none⟩ = some (.slice y0.filesA y0.filesN y0.filesC) ∧ w'.cell? ⟨w.heap.size, 3, none⟩ = some (.slice y0.waitA y0.waitN y0.waitC) ∧ w'.cell? ⟨w.heap.size + 1, 0, none⟩ = some (.int .i64 y1.kind) ∧ w'.cell? ⟨w.heap.size + 1, 1, none⟩ = some (.string y1.name) ∧ w'.cell? ⟨w.heap.size + 1, 2, none⟩ = some (.string y1.dst) ∧ w'.cell? ⟨w.heap.size + 1, 3, none⟩ = some (.slice y1.dataA y1.dataN y1.dataC) ∧ Below w14.heap.size w14 w') (first | (with_reducible exact keepd8 (by assumption)) | (with_reducible exact keep8 (by assumption) (Nat.le_refl _) (by assumption)) | (with_reducible exact keep8 ((Below.refl _ _).alloc (Nat.le_refl _) _) (Nat.le_refl _) (by assumption)) | (with_reducible exact ⟨c14_a0_0, c14_a0_1, c14_a0_2, c14_a0_3, c14_a1_0, c14_a1_1, c14_a1_2, c14_a1_3, Below.refl _ _⟩) | (with_reducible exact keepd8 ⟨c14_a0_0, c14_a0_1, c14_a0_2, c14_a0_3, c14_a1_0, c14_a1_1, c14_a1_2, c14_a1_3, Below.refl _ _⟩) | (with_reducible exact keepd8 (keep8 ((Below.refl _ _).alloc (Nat.le_refl _) _) (Nat.le_refl _) ⟨c14_a0_0, c14_a0_1, c14_a0_2, c14_a0_3, c14_a1_0, c14_a1_1, c14_a1_2, c14_a1_3, Below.refl _ _⟩)) | (with_reducible exact keep8 ((Below.refl _ _).alloc (Nat.le_refl _) _) (Nat.le_refl _) HSD.out) | (exact keep8 ((tail8 HSD.out).trans ((win_four wd _ _ _ (Nat.le_refl _) (Nat.lt_succ_self _) _ _ _ _).below (by omega) (by omega))) (Nat.le_refl _) ⟨c14_a0_0, c14_a0_1, c14_a0_2, c14_a0_3, c14_a1_0, c14_a1_1, c14_a1_2, c14_a1_3, Below.refl _ _⟩))
            (first
              | (go_at_call 22; (with_reducible refine (toDisk_k y0 _ (rdDisk_below (goodDisk_rd g0) (BB14.trans ((tail8 (by assumption) : Below w14.heap.size w14 _).mono BB14.size)) (Nat.le_refl _)) hn0).mono ?_); rintro e wa ⟨v0, rfl, hda, Ha, hka, hba⟩; have sa1 : w14.heap.size ≤ wa.heap.size := Nat.le_trans (tail8 (by assumption) : Below w14.heap.size w14 _).size hba.size; (first | (have hxa : Hid (OutZ w14.heap.size wa) := Lib.hid ((OutZ.new w14).drew.later hba)) | skip); skip)
              | (go_at_call 12; (refine (toFsOp_k y1 _ (rdFsOp_below (goodFsOp_rd g1) (BB14.trans ((tail8 (by assumption) : Below w14.heap.size w14 _).mono BB14.size)) (Nat.le_refl _)) hn1).mono ?_); rintro e wb ⟨v1, rfl, hdb, Hb, hkb, hbb⟩; have sb1 : wa.heap.size ≤ wb.heap.size := (by first | exact hbb.size | exact Nat.le_trans (Nat.le_of_lt (by simp)) hbb.size); (first | (have Ha2 := Ha.below hbb) | (have Ha2 := (Ha.below ((Below.refl _ _).alloc (Nat.le_refl _) _)).below hbb)); (first | (have hxb : Hid (OutZ w14.heap.size wb) := Lib.hid (hxa.out.later hbb)) | (have hyb : Hid (OutZ wa.heap.size wb) := Lib.hid ((OutZ.new wa).later hbb)) | skip); skip)
              | (go_at_call 34; (with_reducible refine (diskDo_impl_k v0 (datDisk y0) hda v1 (datFsOp y1) hdb _ (by first | exact Ha2.good (okDisk_dat okY0 hda) | exact (Ha2.below ((Below.refl _ _).alloc (Nat.le_refl _) _)).good (okDisk_dat okY0 hda)) (by first | exact Hb.good (okFsOp_dat okY1 hdb) | exact (Hb.below ((Below.refl _ _).alloc (Nat.le_refl _) _)).good (okFsOp_dat okY1 hdb)) (by rw [hka, hkb]; omega)).mono ?_); rintro e wd ⟨X, rfl, hdd, Hd, hkd, hbd⟩; have HSD := Lib.hid (keep8 hbd (Nat.le_refl _) (by assumption)); have sd1 : wb.heap.size ≤ wd.heap.size := (by first | exact hbd.size | exact Nat.le_trans (Nat.le_of_lt (by simp)) hbd.size); (first | (have HXD : Hid (OutZ w14.heap.size wd) := Lib.hid (hxb.out.later hbd)) | (have HXD : Hid (OutZ wa.heap.size wd) := Lib.hid (hyb.out.later hbd)) | (have HXD : Hid (OutZ wb.heap.size wd) := Lib.hid ((OutZ.new wb).later hbd)) | skip); (try obtain ⟨z0, z1, z2, z3, zf⟩ := HXD.out); (try have zf0 := zf 0 (by omega)); (try have zf1 := zf 1 (by omega)); (try have zf2 := zf 2 (by omega)); (try have zf3 := zf 3 (by omega)); (try clear zf); skip))
          all_goals
            have hbt : Below w14.heap.size w14 wd := (tail8 (by assumption) : Below w14.heap.size w14 wd)
            go_wp2_with fail
            go_meet
            first
              | exact ⟨_, X, rfl, rfl, Lib.hid ⟨⟨hdd, by omega⟩, MidD.late Hd (by first | (simp only [size_alloc]; omega) | omega) hbt⟩⟩
              | exact ⟨_, X, rfl, rfl, Lib.hid ⟨⟨hdd, by omega⟩, MidD.early Hd (by first | exact hxb.out.lt | exact hyb.out.lt | simp) (by omega) HXD.out hbt⟩⟩
        case rest =>
          obtain ⟨EK, K, rfl, rfl, HMK⟩ := hcut
          obtain ⟨w15, hw15⟩ : ∃ x : World, x = wc := ⟨wc, rfl⟩
          subst hw15
          have hb15 := HMK.out.2.bel
          have hkK := HMK.out.1.2
          have HDK := Lib.hid HMK.out.1.1
          have H15K := HMK.out.2.own
          have hgeK := HMK.out.2.ge
          have hltK := HMK.out.2.box.lt
          have BB15 := BB14.trans (hb15.mono BB14.size)
          have sz15 := hb15.size
          have H15W := H14W.below hb15
          clear H14W
          have H15G := H14G.below hb15
          clear H14G
          have c15_a0_0 := cell_later hb15 c14_a0_0
          clear c14_a0_0
          have c15_a0_1 := cell_later hb15 c14_a0_1
          clear c14_a0_1
          have c15_a0_2 := cell_later hb15 c14_a0_2
          clear c14_a0_2
          have c15_a0_3 := cell_later hb15 c14_a0_3
          clear c14_a0_3
          have c15_a1_0 := cell_later hb15 c14_a1_0
          clear c14_a1_0
          have c15_a1_1 := cell_later hb15 c14_a1_1
          clear c14_a1_1
          have c15_a1_2 := cell_later hb15 c14_a1_2
          clear c14_a1_2
          have c15_a1_3 := cell_later hb15 c14_a1_3
          clear c14_a1_3
          have c15_W_0 := cell_later hb15 c14_W_0
          clear c14_W_0
          have c15_W_1 := cell_later hb15 c14_W_1
          clear c14_W_1
          have c15_W_2 := cell_later hb15 c14_W_2
          clear c14_W_2
          have c15_W_3 := cell_later hb15 c14_W_3
          clear c14_W_3
          have c15_G_0 := cell_later hb15 c14_G_0
          clear c14_G_0
          have c15_G_1 := cell_later hb15 c14_G_1
          clear c14_G_1
          have c15_G_2 := cell_later hb15 c14_G_2
          clear c14_G_2
          have c15_G_3 := cell_later hb15 c14_G_3
          clear c14_G_3
          have c15_K_0 := HMK.out.2.box.c0
          have c15_K_1 := HMK.out.2.box.c1
          have c15_K_2 := HMK.out.2.box.c2
          have c15_K_3 := HMK.out.2.box.c3
          clear HMK
          go_wp2_with fail
          refine (eqDisk_k K W _ _ HDK.out HDW.out _ H15K.rd H15W.rd).mono ?_
          rintro e w16 ⟨rfl, hb16⟩
          have BB16 := BB15.trans (hb16.mono BB15.size)
          have sz16 := hb16.size
          have H16W := H15W.below hb16
          clear H15W
          have H16G := H15G.below hb16
          clear H15G
          have H16K := H15K.below hb16
          clear H15K
          have c16_a0_0 := cell_later hb16 c15_a0_0
          clear c15_a0_0
          have c16_a0_1 := cell_later hb16 c15_a0_1
          clear c15_a0_1
          have c16_a0_2 := cell_later hb16 c15_a0_2
          clear c15_a0_2
          have c16_a0_3 := cell_later hb16 c15_a0_3
          clear c15_a0_3
          have c16_a1_0 := cell_later hb16 c15_a1_0
          clear c15_a1_0
          have c16_a1_1 := cell_later hb16 c15_a1_1
          clear c15_a1_1
          have c16_a1_2 := cell_later hb16 c15_a1_2
          clear c15_a1_2
          have c16_a1_3 := cell_later hb16 c15_a1_3
          clear c15_a1_3
          have c16_W_0 := cell_later hb16 c15_W_0
          clear c15_W_0
          have c16_W_1 := cell_later hb16 c15_W_1
          clear c15_W_1
          have c16_W_2 := cell_later hb16 c15_W_2
          clear c15_W_2
          have c16_W_3 := cell_later hb16 c15_W_3
          clear c15_W_3
          have c16_G_0 := cell_later hb16 c15_G_0
          clear c15_G_0
          have c16_G_1 := cell_later hb16 c15_G_1
          clear c15_G_1
          have c16_G_2 := cell_later hb16 c15_G_2
          clear c15_G_2
          have c16_G_3 := cell_later hb16 c15_G_3
          clear c15_G_3
          have c16_K_0 := cell_later hb16 c15_K_0
          clear c15_K_0
          have c16_K_1 := cell_later hb16 c15_K_1
          clear c15_K_1
          have c16_K_2 := cell_later hb16 c15_K_2
          clear c15_K_2
          have c16_K_3 := cell_later hb16 c15_K_3
          clear c15_K_3
          go_wp2_with fail
          refine (heldDisk_k G 1 _ H16G (by omega) (by omega)).mono ?_
          rintro e w17 ⟨rfl, hb17⟩
          have BB17 := BB16.trans (hb17.mono BB16.size)
          have sz17 := hb17.size
          have H17W := H16W.below hb17
          clear H16W
          have H17G := H16G.below hb17
          clear H16G
          have c17_a0_0 := cell_later hb17 c16_a0_0
          clear c16_a0_0
          have c17_a0_1 := cell_later hb17 c16_a0_1
          clear c16_a0_1
          have c17_a0_2 := cell_later hb17 c16_a0_2
          clear c16_a0_2
          have c17_a0_3 := cell_later hb17 c16_a0_3
          clear c16_a0_3
          have c17_a1_0 := cell_later hb17 c16_a1_0
          clear c16_a1_0
          have c17_a1_1 := cell_later hb17 c16_a1_1
          clear c16_a1_1
          have c17_a1_2 := cell_later hb17 c16_a1_2
          clear c16_a1_2
          have c17_a1_3 := cell_later hb17 c16_a1_3
          clear c16_a1_3
          have c17_W_0 := cell_later hb17 c16_W_0
          clear c16_W_0
          have c17_W_1 := cell_later hb17 c16_W_1
          clear c16_W_1
          have c17_W_2 := cell_later hb17 c16_W_2
          clear c16_W_2
          have c17_W_3 := cell_later hb17 c16_W_3
          clear c16_W_3
          have c17_G_0 := cell_later hb17 c16_G_0
          clear c16_G_0
          have c17_G_1 := cell_later hb17 c16_G_1
          clear c16_G_1
          have c17_G_2 := cell_later hb17 c16_G_2
          clear c16_G_2
          have c17_G_3 := cell_later hb17 c16_G_3
          clear c16_G_3
          go_wp2
          go_ret
          exact ⟨rfl, BB17⟩
    · have BB0 := Below.refl w.heap.size w
      have okY0 := goodDisk_ok g0
      have okY1 := goodFsOp_ok g1
      go_enter Try.func9, Try.ntmps9
      have HL0 := Lib.hid (leftB_yes (left := 1048576) (n := bulkDisk y0) (by omega))
      have ha1 := (((Below.refl w.heap.size w).alloc (Nat.le_refl _) (.cells #[.int .i64 y0.room, .int .i64 y0.fuse, .slice y0.filesA y0.filesN y0.filesC, .slice y0.waitA y0.waitN y0.waitC] 43)).alloc (by simp) (.cells #[.int .i64 y1.kind, .string y1.name, .string y1.dst, .slice y1.dataA y1.dataN y1.dataC] 24))
      have BP1 := BB0.trans (ha1.mono BB0.size)
      go_wp2_with fail
      refine (szDisk_k y0 _ _ (rdDisk_below (goodDisk_rd g0) BP1 (Nat.le_refl _)) (goodDisk_str g0) (by omega) (by omega)).mono ?_
      rintro e w1 ⟨rfl, hb1⟩
      rw [HL0.out]
      have hx1 : Below w.heap.size w w1 := ha1.trans (hb1.mono ha1.size)
      have szz1 : w.heap.size + 2 ≤ w1.heap.size := by have := hb1.size; simp at this; omega
      obtain ⟨hc1, hf1⟩ := bcell hb1
      have c1_a0_0 : w1.cell? ⟨w.heap.size, 0, none⟩ = some (.int .i64 y0.room) := by rw [hc1 _ _ (by simp <;> omega)]; simp [go_sem]
      have c1_a0_1 : w1.cell? ⟨w.heap.size, 1, none⟩ = some (.int .i64 y0.fuse) := by rw [hc1 _ _ (by simp <;> omega)]; simp [go_sem]
      have c1_a0_2 : w1.cell? ⟨w.heap.size, 2, none⟩ = some (.slice y0.filesA y0.filesN y0.filesC) := by rw [hc1 _ _ (by simp <;> omega)]; simp [go_sem]
      have c1_a0_3 : w1.cell? ⟨w.heap.size, 3, none⟩ = some (.slice y0.waitA y0.waitN y0.waitC) := by rw [hc1 _ _ (by simp <;> omega)]; simp [go_sem]
      have c1_a1_0 : w1.cell? ⟨w.heap.size + 1, 0, none⟩ = some (.int .i64 y1.kind) := by rw [hc1 _ _ (by simp <;> omega)]; simp [go_sem]
      have c1_a1_1 : w1.cell? ⟨w.heap.size + 1, 1, none⟩ = some (.string y1.name) := by rw [hc1 _ _ (by simp <;> omega)]; simp [go_sem]
      have c1_a1_2 : w1.cell? ⟨w.heap.size + 1, 2, none⟩ = some (.string y1.dst) := by rw [hc1 _ _ (by simp <;> omega)]; simp [go_sem]
      have c1_a1_3 : w1.cell? ⟨w.heap.size + 1, 3, none⟩ = some (.slice y1.dataA y1.dataN y1.dataC) := by rw [hc1 _ _ (by simp <;> omega)]; simp [go_sem]
      clear hc1 hf1
      have BB1 := BB0.trans (hx1.mono BB0.size)
      have sz1 := hx1.size
      have HL1 := Lib.hid (leftB_no (left := 1048576 - ((bulkDisk y0 : Nat) : Int)) (n := bulkFsOp y1) (by omega))
      go_wp2_with fail
      refine (szFsOp_k y1 _ _ (rdFsOp_below (goodFsOp_rd g1) BB1 (Nat.le_refl _)) (goodFsOp_str g1) (by omega) (by omega)).mono ?_
      rintro e w2 ⟨rfl, hb2⟩
      rw [HL1.out]
      have BB2 := BB1.trans (hb2.mono BB1.size)
      have sz2 := hb2.size
      have c2_a0_0 := cell_later hb2 c1_a0_0
      clear c1_a0_0
      have c2_a0_1 := cell_later hb2 c1_a0_1
      clear c1_a0_1
      have c2_a0_2 := cell_later hb2 c1_a0_2
      clear c1_a0_2
      have c2_a0_3 := cell_later hb2 c1_a0_3
      clear c1_a0_3
      have c2_a1_0 := cell_later hb2 c1_a1_0
      clear c1_a1_0
      have c2_a1_1 := cell_later hb2 c1_a1_1
      clear c1_a1_1
      have c2_a1_2 := cell_later hb2 c1_a1_2
      clear c1_a1_2
      have c2_a1_3 := cell_later hb2 c1_a1_3
      clear c1_a1_3
      go_wp2
      go_ret
      exact ⟨rfl, BB2⟩
  · have BB0 := Below.refl w.heap.size w
    have okY0 := goodDisk_ok g0
    have okY1 := goodFsOp_ok g1
    go_enter Try.func9, Try.ntmps9
    have HL0 := Lib.hid (leftB_no (left := 1048576) (n := bulkDisk y0) (by omega))
    have ha1 := (((Below.refl w.heap.size w).alloc (Nat.le_refl _) (.cells #[.int .i64 y0.room, .int .i64 y0.fuse, .slice y0.filesA y0.filesN y0.filesC, .slice y0.waitA y0.waitN y0.waitC] 43)).alloc (by simp) (.cells #[.int .i64 y1.kind, .string y1.name, .string y1.dst, .slice y1.dataA y1.dataN y1.dataC] 24))
    have BP1 := BB0.trans (ha1.mono BB0.size)
    go_wp2_with fail
    refine (szDisk_k y0 _ _ (rdDisk_below (goodDisk_rd g0) BP1 (Nat.le_refl _)) (goodDisk_str g0) (by omega) (by omega)).mono ?_
    rintro e w1 ⟨rfl, hb1⟩
    rw [HL0.out]
    have hx1 : Below w.heap.size w w1 := ha1.trans (hb1.mono ha1.size)
    have szz1 : w.heap.size + 2 ≤ w1.heap.size := by have := hb1.size; simp at this; omega
    obtain ⟨hc1, hf1⟩ := bcell hb1
    have c1_a0_0 : w1.cell? ⟨w.heap.size, 0, none⟩ = some (.int .i64 y0.room) := by rw [hc1 _ _ (by simp <;> omega)]; simp [go_sem]
    have c1_a0_1 : w1.cell? ⟨w.heap.size, 1, none⟩ = some (.int .i64 y0.fuse) := by rw [hc1 _ _ (by simp <;> omega)]; simp [go_sem]
    have c1_a0_2 : w1.cell? ⟨w.heap.size, 2, none⟩ = some (.slice y0.filesA y0.filesN y0.filesC) := by rw [hc1 _ _ (by simp <;> omega)]; simp [go_sem]
    have c1_a0_3 : w1.cell? ⟨w.heap.size, 3, none⟩ = some (.slice y0.waitA y0.waitN y0.waitC) := by rw [hc1 _ _ (by simp <;> omega)]; simp [go_sem]
    have c1_a1_0 : w1.cell? ⟨w.heap.size + 1, 0, none⟩ = some (.int .i64 y1.kind) := by rw [hc1 _ _ (by simp <;> omega)]; simp [go_sem]
    have c1_a1_1 : w1.cell? ⟨w.heap.size + 1, 1, none⟩ = some (.string y1.name) := by rw [hc1 _ _ (by simp <;> omega)]; simp [go_sem]
    have c1_a1_2 : w1.cell? ⟨w.heap.size + 1, 2, none⟩ = some (.string y1.dst) := by rw [hc1 _ _ (by simp <;> omega)]; simp [go_sem]
    have c1_a1_3 : w1.cell? ⟨w.heap.size + 1, 3, none⟩ = some (.slice y1.dataA y1.dataN y1.dataC) := by rw [hc1 _ _ (by simp <;> omega)]; simp [go_sem]
    clear hc1 hf1
    have BB1 := BB0.trans (hx1.mono BB0.size)
    have sz1 := hx1.size
    go_wp2
    go_ret
    exact ⟨rfl, BB1⟩
end Go.Proofs.Ytoodlmhnemamhaa

/- The law FnExactDiskDo returns true for every input, and leaves its arguments as they were: no condition. The row's step; the walk stands in the text imported. -/
namespace Go.Proofs.Ytoodlmhnemamhaa.fnExactDiskDo
open Go.ChangeShapes Go.WideShapes Go.ChangeAt Go.RowKit Go.Deep
open Go.ChangeMaps (open_string shut_string)
set_option linter.unusedVariables false
set_option maxRecDepth 100000 in
theorem lifted (os : Os) (started : os.Started) (H : Type) (enc : TypeId × Value → H) :
    ReturnsInHanded {} Try.checked os 9 .any (Rows.fnExactDiskDoSpec.pre6 enc Try.prog Try.f9 Rows.fnExactDiskDoRow.domain false) (Rows.fnExactDiskDoSpec.post enc Try.prog Try.f9 false true false false) := by
  refine returnsInHanded_of_change (C := Try.checked) own started (by kernel_rfl) Try.func9
    (ChangeSpec.witness6 (enc := enc) (C := Try.checked) false ⟨#[], #[.agg #[.int .i64 0, .int .i64 0, .slice none 0 0, .slice none 0 0], .agg #[.int .i64 0, .string ⟨#[]⟩, .string ⟨#[]⟩, .slice none 0 0]], []⟩ 8 (by kernel_rfl) (by kernel_rfl) (by kernel_rfl) (by kernel_rfl)) ?_
  intro W base args ds gs before hval0 hW hcnd _
  have hval : ∀ (j : Nat) t v, Try.f9.params[j]? = some t → args[j]? = some v → Value.okWide Try.prog W .any base t v := hval0
  have hW' := hW
  obtain ⟨p, q, hA0, hV, rfl, hfz, hnd⟩ := hW
  have hA : DataW.TrodAll enc Try.prog W 0 (fun _ => true) true Try.f9.params.toList args.toList ds p := hA0
  rw [Try.params9] at hA hval
  obtain ⟨v0, vs0, d0, ds0, p0, q0, hargs, rfl, rfl, h0, r0⟩ := trodAll_cons hA
  obtain ⟨v1, vs1, d1, ds1, p1, q1, rfl, rfl, rfl, h1, r1⟩ := trodAll_cons r0
  obtain ⟨rfl, rfl, rfl⟩ := trodAll_nil r1
  obtain rfl : args = #[v0, v1] := by cases args; simp_all
  obtain ⟨rfl, rfl⟩ := trodVars_none hV
  have k0 := h0
  have lt0 : ∀ x ∈ p0, x.block < W.heap.size := by obtain ⟨m, hm⟩ := k0; exact DataW.trod_lt m _ _ _ hm
  obtain ⟨cs0, rfl, hsz0⟩ := okWide_struct Try.underlying43 (hval 0 43 v0 rfl rfl)
  obtain ⟨fu0, hf0⟩ := h0
  obtain ⟨y0, hc0, gd0⟩ := opDisk _ _ _ hf0
  obtain rfl : cs0 = #[.int .i64 y0.room, .int .i64 y0.fuse, .slice y0.filesA y0.filesN y0.filesC, .slice y0.waitA y0.waitN y0.waitC] := by apply Array.toList_inj.1; simpa [Value.cells, encDisk] using hc0
  have k1 := h1
  have lt1 : ∀ x ∈ p1, x.block < W.heap.size := by obtain ⟨m, hm⟩ := k1; exact DataW.trod_lt m _ _ _ hm
  obtain ⟨cs1, rfl, hsz1⟩ := okWide_struct Try.underlying24 (hval 1 24 v1 rfl rfl)
  obtain ⟨fu1, hf1⟩ := h1
  obtain ⟨y1, hc1, gd1⟩ := opFsOp _ _ _ hf1
  obtain rfl : cs1 = #[.int .i64 y1.kind, .string y1.name, .string y1.dst, .slice y1.dataA y1.dataN y1.dataC] := by apply Array.toList_inj.1; simpa [Value.cells, encFsOp] using hc1
  clear hA0 hval0
  refine (walk_FnExactDiskDo y0 y1 W gd0 gd1).mono fun e W' ⟨he, bel⟩ => ?_
  subst he
  exact ⟨_, rfl, _, _, _, [], _, [], hW', trodAll_mk1 (shut_bool Try.underlying4 _), (trodAll_cons_mk (Below.trod laidOut (by kernel_rfl) (of_decide_eq_true (by kernel_rfl)) k0 bel lt0) (trodAll_cons_mk (Below.trod laidOut (by kernel_rfl) (of_decide_eq_true (by kernel_rfl)) k1 bel lt1) trodAll_mk0)), rfl, bel.frame _, fun h => by cases h⟩

theorem over : Rows.fnExactDiskDoRow.holds Try.pinned (OpenSpec.ofChange Rows.fnExactDiskDoSpec) :=
  OpenClaim.holds_of_wide 9 Try.f9 rfl rfl rfl rfl rfl rfl rfl ⟨rfl, rfl, rfl, rfl, rfl⟩ rfl rfl rfl rfl rfl (by kernel_rfl) Try.func9 (by kernel_rfl)
    (of_decide_eq_true (by kernel_rfl)) (by unfold Func.isWrapper; first | (rw [if_pos (by decide +kernel)]; kernel_rfl) | (rw [if_neg (by decide +kernel)]; exact ⟨rfl, rfl⟩))
    (fun os started H enc _ => lifted os started H enc)

theorem proved : Rows.FnExactDiskDoSaid := over
#print axioms proved
end Go.Proofs.Ytoodlmhnemamhaa.fnExactDiskDo

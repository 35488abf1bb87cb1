import Derived.Test.YtoodlmhnemamhaaCopyF
import Derived.Test.YtoodlmhnemamhaaDiskF
import Derived.Deep.RegionLaw
import Derived.Test.YtoodlmhnemamhaaDiskRd
import Derived.Test.YtoodlmhnemamhaaNestM
import Derived.Laws.BitsAllLaws
import Derived.StillTailTactics
import Derived.Test.YtoodlmhnemamhaaDiskMK
import Derived.Test.YtoodlmhnemamhaaDiskE
import Derived.Test.YtoodlmhnemamhaaKeep
import Derived.Test.YtoodlmhnemamhaaRow
import Derived.Test.YtoodlmhnemamhaaRoot
import Derived.Test.YtoodlmhnemamhaaOpen
import Derived.Test.YtoodlmhnemamhaaTyDisk
/- Copies of rows of operations: what a row that grows by a copy owns; copyOp of the program. -/
namespace Go.Proofs.Ytoodlmhnemamhaa
open Go.RowKit
theorem OwnFsOpS.grow {lo hi : Nat} {w : World} {y : Row FsOpR} (h : OwnFsOpS lo hi w y) {hi' : Nat} (hl : hi ≤ hi') (ht : hi' ≤ w.heap.size) : OwnFsOpS lo hi' w y := ⟨h.nest.grow hl ht⟩
theorem OwnFsOpS.nil (lo : Nat) (w : World) : OwnFsOpS lo w.heap.size w ⟨none, 0, 0, []⟩ := ⟨OwnN.nil _ _ _ _ _ _ _ _ _⟩
theorem OwnFileS.nil (lo : Nat) (w : World) : OwnFileS lo w.heap.size w ⟨none, 0, 0, []⟩ := ⟨OwnN.nil _ _ _ _ _ _ _ _ _⟩
theorem OwnFsOpS.lit (w : World) (lo : Nat) (hlo : lo ≤ w.heap.size) : OwnFsOpS lo (w.heap.size + 1) (w.alloc (.cells #[] 27)) ⟨some ⟨w.heap.size, 0, none⟩, 0, 0, []⟩ :=
  ⟨⟨⟨rfl, World.ownsRow_lit w #[] 0 hlo (by unfold maxLen; omega) (by simp), fun g hg => by cases hg; exact Nat.lt_succ_self _, by simp, Nat.zero_le _⟩, fun i hi => absurd hi (by simp), fun i hi => absurd hi (by simp), fun i i' hi => absurd hi (by simp)⟩⟩
theorem OwnFsOpS.snoc {lo H B : Nat} {W0 w2 : World} {y : Row FsOpR} (h : OwnFsOpS lo H W0 y) (hHB : H ≤ B) (hlB : lo ≤ B) (x : FsOpR) (g2 C2 : Nat)
    (hin : OwnS (encI .u8) 1 5 B W0.heap.size W0 x.dataA x.dataN x.dataC x.data)
    (ho2 : w2.ownsRow lo 27 4 (.slice (some ⟨g2, 0, none⟩) (y.n + 1) C2) (y.n + 1) (y.l.flatMap encFsOp ++ encFsOp x)) (hg2 : W0.grownBy w2 (Value.slice y.a y.n y.c).ownBlock)
    (hnew : (Value.slice y.a y.n y.c).ownBlock = some g2 ∨ g2 = W0.heap.size) (hsm : y.n < 100000000) : OwnFsOpS lo w2.heap.size w2 ⟨some ⟨g2, 0, none⟩, y.n + 1, C2, y.l ++ [x]⟩ := by
  have hyl := h.nest.row.len
  have htop := h.nest.row.top
  have hg := h.grow htop (Nat.le_refl _)
  refine ⟨hg.nest.snoc x (some ⟨g2, 0, none⟩) C2 (OwnS.of (by rw [List.flatMap_append]; simpa using ho2) (by simp; omega) (show y.n + 1 ≤ _ by omega)) (hin.lo_le hlB) hg2 ?_ ?_ ?_ hg2.size (Nat.le_refl _)⟩
  · rcases hnew with e | e
    · exact Or.inl (by rw [show blkR y = _ from e]; rfl)
    · refine Or.inr (fun q hq => ?_)
      have e2 : g2 = q := by simpa [Value.ownBlock] using hq
      omega
  · intro q hq e
    have h1 := (World.ownsRow.lt hin.own q hq).1
    have h2 := h.nest.row.lt q e
    omega
  · intro i hi0 q hq e
    have h1 := (World.ownsRow.lt hin.own q e).1
    have h2 := (h.nest.inner i hi0).lt q hq
    omega
theorem one_fsOp (x : FsOpR) : ∀ u ∈ encFsOp x, u.oneCell' = true := by
  intro u hu
  simp only [encFsOp, List.mem_cons, List.not_mem_nil, or_false] at hu
  rcases hu with rfl | rfl | rfl | rfl <;> rfl
theorem news_four (w : World) (x y z v : Value) (t : TypeId) : ∀ (j : Nat) (u : Value), [x, y, z, v][j]? = some u → (w.alloc (.cells #[x, y, z, v] t)).cell? ((⟨w.heap.size, 0, none⟩ : Addr).add j) = some u := by
  intro j u hu
  match j, hu with
  | 0, hu => simp at hu; subst hu; simp [go_sem]
  | 1, hu => simp at hu; subst hu; simp [go_sem]
  | 2, hu => simp at hu; subst hu; simp [go_sem]
  | 3, hu => simp at hu; subst hu; simp [go_sem]
  | j + 4, hu => simp at hu
/-- An operation with a row of data of the call's own. -/
def RetOpO (O : OD) (n : Nat) (w : World) (en : Ending) (w' : World) : Prop := ∃ x : FsOpR, en = .returned (.agg #[.int .i64 x.kind, .string x.name, .string x.dst, .slice x.dataA x.dataN x.dataC]) ∧ datFsOp x = O ∧ x.dataN = n ∧ OwnS (encI .u8) 1 5 w.heap.size w'.heap.size w' x.dataA x.dataN x.dataC x.data ∧ Below w.heap.size w w'
set_option maxHeartbeats 1600000 in
theorem copyOp_any (x : FsOpR) (w : World) (h : Rd (encI .u8) 1 w x.dataA x.dataN x.dataC x.data) (hn : x.dataN ≤ 100000000) :
    Calls Try.prog 60 #[.agg #[.int .i64 x.kind, .string x.name, .string x.dst, .slice x.dataA x.dataN x.dataC]] w fun e w' => RetOpO (datFsOp x) x.dataN w e w' := by
  obtain ⟨ok, onm, odst, oA, oN, oC, oL⟩ := x
  simp only at h hn ⊢
  have hb0 := ((Below.refl w.heap.size w).alloc (Nat.le_refl _) (.cells #[.int .i64 ok, .string onm, .string odst, .slice oA oN oC] 27)).alloc (by simp) (.cells #[.int .i64 0, .string ⟨#[]⟩, .string ⟨#[]⟩, .slice none 0 0] 27)
  have HR := Lib.hid (h.below hb0 (Nat.le_refl _))
  clear h
  go_enter Try.func60, Try.ntmps60
  go_wp2_with fail
  refine (copyBytes_any oA oN oC oL _ HR.out hn).mono ?_
  rintro e w1 ⟨A1, N1, C1, rfl, ho, hb1⟩
  obtain ⟨hc, hf⟩ := bcell hb1
  have hz1 : w.heap.size + 2 ≤ w1.heap.size := by have := hb1.size; simp at this; omega
  have x0 : w1.cell? ⟨w.heap.size, 0, none⟩ = some (.int .i64 ok) := by rw [hc _ _ (by simp; omega)]; simp [go_sem]
  have x1 : w1.cell? ⟨w.heap.size, 1, none⟩ = some (.string onm) := by rw [hc _ _ (by simp; omega)]; simp [go_sem]
  have x2 : w1.cell? ⟨w.heap.size, 2, none⟩ = some (.string odst) := by rw [hc _ _ (by simp; omega)]; simp [go_sem]
  have x3 : w1.cell? ⟨w.heap.size, 3, none⟩ = some (.slice oA oN oC) := by rw [hc _ _ (by simp; omega)]; simp [go_sem]
  have r0 : w1.cell? ⟨w.heap.size + 1, 0, none⟩ = some (.int .i64 0) := by rw [hc _ _ (by simp)]; simp [go_sem]
  have r1 : w1.cell? ⟨w.heap.size + 1, 1, none⟩ = some (.string ⟨#[]⟩) := by rw [hc _ _ (by simp)]; simp [go_sem]
  have r2 : w1.cell? ⟨w.heap.size + 1, 2, none⟩ = some (.string ⟨#[]⟩) := by rw [hc _ _ (by simp)]; simp [go_sem]
  have r3 : w1.cell? ⟨w.heap.size + 1, 3, none⟩ = some (.slice none 0 0) := by rw [hc _ _ (by simp)]; simp [go_sem]
  have f3 : w1.frozen? ⟨w.heap.size, 3, none⟩ = false := by rw [hf _ _ (by simp; omega)]; simp [go_sem]
  have q0 : w1.frozen? ⟨w.heap.size + 1, 0, none⟩ = false := by rw [hf _ _ (by simp)]; simp [go_sem]
  have q1 : w1.frozen? ⟨w.heap.size + 1, 1, none⟩ = false := by rw [hf _ _ (by simp)]; simp [go_sem]
  have q2 : w1.frozen? ⟨w.heap.size + 1, 2, none⟩ = false := by rw [hf _ _ (by simp)]; simp [go_sem]
  have q3 : w1.frozen? ⟨w.heap.size + 1, 3, none⟩ = false := by rw [hf _ _ (by simp)]; simp [go_sem]
  have BB1 := hb0.trans (hb1.mono hb0.size)
  clear hc hf
  go_wp2
  refine bodyPost_ret (v := .agg #[.int .i64 ok, .string onm, .string odst, .slice A1 N1 C1]) (by simp [results, Try.results60, go_sem, r0, r1, r2, r3]) rfl ?_
  have hw2 := (Win.set (lo := w.heap.size) (hi := w.heap.size + 2) w1 w.heap.size 3 (.slice A1 N1 C1) (by omega) (by omega)).trans ((((Win.set _ (w.heap.size + 1) 0 (.int .i64 ok) (by omega) (by omega)).trans (Win.set _ (w.heap.size + 1) 1 (.string onm) (by omega) (by omega))).trans (Win.set _ (w.heap.size + 1) 2 (.string odst) (by omega) (by omega))).trans (Win.set _ (w.heap.size + 1) 3 (.slice A1 N1 C1) (by omega) (by omega)))
  have ho2 := (ho.toS.lo_le (lo' := w.heap.size + 2) (by simp)).win hw2 (Or.inl (Nat.le_refl _))
  have hnn : N1 = oN := by have e1 := ho.toS.len; have e2 := HR.out.len; omega
  exact ⟨⟨ok, onm, odst, A1, N1, C1, oL⟩, rfl, rfl, hnn, (ho2.lo_le (by omega)).grow (by simp only [size_set]; exact Nat.le_refl _) (Nat.le_refl _), BB1.trans (hw2.below (Nat.le_refl _) BB1.size)⟩
end Go.Proofs.Ytoodlmhnemamhaa

/- l02Copy of the reference. -/
namespace Go.Proofs.Ytoodlmhnemamhaa
open Go.RowKit
/-- A disk of a call's own. -/
def RetDO (D : DskD) (w : World) (en : Ending) (w' : World) : Prop := ∃ y : DiskR, en = .returned (.agg #[.int .i64 y.room, .int .i64 y.fuse, .slice y.filesA y.filesN y.filesC, .slice y.waitA y.waitN y.waitC]) ∧ datDisk y = D ∧ OwnDisk w.heap.size w'.heap.size w' y ∧ Below w.heap.size w w'
set_option maxRecDepth 100000 in
set_option maxHeartbeats 6400000 in
theorem l02Copy_any (y : DiskR) (w : World) (g : rdDisk w y) (hn : bulkDisk y ≤ 1048576) (n12 : y.filesN ≤ 10000000) (n60 : y.waitN ≤ 10000000) :
    Calls Try.prog 57 #[.agg #[.int .i64 y.room, .int .i64 y.fuse, .slice y.filesA y.filesN y.filesC, .slice y.waitA y.waitN y.waitC]] w fun e w' => RetDO (datDisk y) w e w' := by
  obtain ⟨room, fuse, fA, fN, fC, fs, oA, oN, oC, os⟩ := y
  obtain ⟨gf, go, goi⟩ := g
  unfold bulkDisk at hn
  simp only [fR, oR] at gf go goi hn n12 n60 ⊢
  have HSB : Hid (sizeF (datFileS ⟨fA, fN, fC, fs⟩) ≤ 10000000) := Lib.hid (by have := size_bulk (w := w) (y := ⟨fA, fN, fC, fs⟩) gf; omega)
  have HOL : Hid (os.length = oN) := Lib.hid go.len
  have HDN : Hid (∀ k, k < os.length → (atFsOp os k).dataN ≤ 1048576) := Lib.hid (fun k hk => by
    have h1 := preFsOp_top os k hk
    have h2 : bulkFsOpS ⟨oA, oN, oC, os⟩ = oN + preFsOp os os.length := rfl
    have h3 : (atFsOp os k).dataN ≤ bulkFsOp (atFsOp os k) := by unfold bulkFsOp; omega
    omega)
  have om := go.max
  have ol := go.le
  unfold maxLen at om
  have hb0 := ((Below.refl w.heap.size w).alloc (Nat.le_refl _) (.cells #[.int .i64 room, .int .i64 fuse, .slice fA fN fC, .slice oA oN oC] 34)).alloc (by simp) (.cells #[.int .i64 0, .int .i64 0, .slice none 0 0, .slice none 0 0] 34)
  have HGO : Hid (∀ x ∈ os, rdFsOp w x) := Lib.hid goi
  have HF0 := Lib.hid (rdFileS_below gf hb0 (Nat.le_refl _))
  obtain ⟨i0, hi, hz0, hz1, hz2⟩ := info_parts infoFsOp
  obtain ⟨i1, ji, jz0, jz1, jz2⟩ := info_parts infoByte
  have HDT : Hid (datDisk ⟨room, fuse, fA, fN, fC, fs, oA, oN, oC, os⟩ = (room, fuse, datFileS ⟨fA, fN, fC, fs⟩, (os.take oN).map datFsOp)) := Lib.hid (by rw [← HOL.out, List.take_length]; rfl)
  rw [HDT.out]
  clear gf goi hn HDT
  go_enter Try.func57, Try.ntmps57
  go_wp2_with fail
  refine (l02Files_any ⟨fA, fN, fC, fs⟩ _ HF0.out n12 HSB.out).mono ?_
  rintro e w1 ⟨f, rfl, hdf, of, hb1⟩
  obtain ⟨hc, hf⟩ := bcell hb1
  have hs1 : w.heap.size + 2 ≤ w1.heap.size := by have := hb1.size; simp at this; omega
  have BB1 := hb0.trans (hb1.mono hb0.size)
  have x0 : w1.cell? ⟨w.heap.size, 0, none⟩ = some (.int .i64 room) := by rw [hc _ _ (by simp; omega)]; simp [go_sem]
  have x1 : w1.cell? ⟨w.heap.size, 1, none⟩ = some (.int .i64 fuse) := by rw [hc _ _ (by simp; omega)]; simp [go_sem]
  have x2 : w1.cell? ⟨w.heap.size, 2, none⟩ = some (.slice fA fN fC) := by rw [hc _ _ (by simp; omega)]; simp [go_sem]
  have x3 : w1.cell? ⟨w.heap.size, 3, none⟩ = some (.slice oA oN oC) := by rw [hc _ _ (by simp; omega)]; simp [go_sem]
  have r0 : w1.cell? ⟨w.heap.size + 1, 0, none⟩ = some (.int .i64 0) := by rw [hc _ _ (by simp)]; simp [go_sem]
  have r1 : w1.cell? ⟨w.heap.size + 1, 1, none⟩ = some (.int .i64 0) := by rw [hc _ _ (by simp)]; simp [go_sem]
  have r2 : w1.cell? ⟨w.heap.size + 1, 2, none⟩ = some (.slice none 0 0) := by rw [hc _ _ (by simp)]; simp [go_sem]
  have r3 : w1.cell? ⟨w.heap.size + 1, 3, none⟩ = some (.slice none 0 0) := by rw [hc _ _ (by simp)]; simp [go_sem]
  have f2 : w1.frozen? ⟨w.heap.size, 2, none⟩ = false := by rw [hf _ _ (by simp; omega)]; simp [go_sem]
  have f3 : w1.frozen? ⟨w.heap.size, 3, none⟩ = false := by rw [hf _ _ (by simp; omega)]; simp [go_sem]
  have q0 : w1.frozen? ⟨w.heap.size + 1, 0, none⟩ = false := by rw [hf _ _ (by simp)]; simp [go_sem]
  have q1 : w1.frozen? ⟨w.heap.size + 1, 1, none⟩ = false := by rw [hf _ _ (by simp)]; simp [go_sem]
  have q2 : w1.frozen? ⟨w.heap.size + 1, 2, none⟩ = false := by rw [hf _ _ (by simp)]; simp [go_sem]
  have q3 : w1.frozen? ⟨w.heap.size + 1, 3, none⟩ = false := by rw [hf _ _ (by simp)]; simp [go_sem]
  clear hc hf
  have hw1 := Win.set (lo := w.heap.size) (hi := w.heap.size + 2) w1 w.heap.size 2 (.slice f.a f.n f.c) (by omega) (by omega)
  have BW1 := BB1.trans (hw1.below (Nat.le_refl _) BB1.size)
  have HOF := Lib.hid (((of.lo_le (lo' := w.heap.size + 2) (by simp)).win hw1 (Or.inl (Nat.le_refl _))))
  have HDF := Lib.hid hdf
  have y0 : (w1.setCell ⟨w.heap.size, 2, none⟩ (.slice f.a f.n f.c)).cell? ⟨w.heap.size, 0, none⟩ = some (.int .i64 room) := by rw [World.cell?_setCell_other _ _ _ _ (by simp)]; exact x0
  have y1 : (w1.setCell ⟨w.heap.size, 2, none⟩ (.slice f.a f.n f.c)).cell? ⟨w.heap.size, 1, none⟩ = some (.int .i64 fuse) := by rw [World.cell?_setCell_other _ _ _ _ (by simp)]; exact x1
  have y2 : (w1.setCell ⟨w.heap.size, 2, none⟩ (.slice f.a f.n f.c)).cell? ⟨w.heap.size, 2, none⟩ = some (.slice f.a f.n f.c) := World.cell?_setCell_same _ _ _ x2
  have y3 : (w1.setCell ⟨w.heap.size, 2, none⟩ (.slice f.a f.n f.c)).cell? ⟨w.heap.size, 3, none⟩ = some (.slice oA oN oC) := by rw [World.cell?_setCell_other _ _ _ _ (by simp)]; exact x3
  have z0 : (w1.setCell ⟨w.heap.size, 2, none⟩ (.slice f.a f.n f.c)).cell? ⟨w.heap.size + 1, 0, none⟩ = some (.int .i64 0) := by rw [World.cell?_setCell_other _ _ _ _ (by simp)]; exact r0
  have z1 : (w1.setCell ⟨w.heap.size, 2, none⟩ (.slice f.a f.n f.c)).cell? ⟨w.heap.size + 1, 1, none⟩ = some (.int .i64 0) := by rw [World.cell?_setCell_other _ _ _ _ (by simp)]; exact r1
  have z2 : (w1.setCell ⟨w.heap.size, 2, none⟩ (.slice f.a f.n f.c)).cell? ⟨w.heap.size + 1, 2, none⟩ = some (.slice none 0 0) := by rw [World.cell?_setCell_other _ _ _ _ (by simp)]; exact r2
  have z3 : (w1.setCell ⟨w.heap.size, 2, none⟩ (.slice f.a f.n f.c)).cell? ⟨w.heap.size + 1, 3, none⟩ = some (.slice none 0 0) := by rw [World.cell?_setCell_other _ _ _ _ (by simp)]; exact r3
  have sf3 : (w1.setCell ⟨w.heap.size, 2, none⟩ (.slice f.a f.n f.c)).frozen? ⟨w.heap.size, 3, none⟩ = false := by rw [World.frozen?_setCell]; exact f3
  have sq0 : (w1.setCell ⟨w.heap.size, 2, none⟩ (.slice f.a f.n f.c)).frozen? ⟨w.heap.size + 1, 0, none⟩ = false := by rw [World.frozen?_setCell]; exact q0
  have sq1 : (w1.setCell ⟨w.heap.size, 2, none⟩ (.slice f.a f.n f.c)).frozen? ⟨w.heap.size + 1, 1, none⟩ = false := by rw [World.frozen?_setCell]; exact q1
  have sq2 : (w1.setCell ⟨w.heap.size, 2, none⟩ (.slice f.a f.n f.c)).frozen? ⟨w.heap.size + 1, 2, none⟩ = false := by rw [World.frozen?_setCell]; exact q2
  have sq3 : (w1.setCell ⟨w.heap.size, 2, none⟩ (.slice f.a f.n f.c)).frozen? ⟨w.heap.size + 1, 3, none⟩ = false := by rw [World.frozen?_setCell]; exact q3
  have hs2 : w.heap.size + 2 ≤ (w1.setCell ⟨w.heap.size, 2, none⟩ (.slice f.a f.n f.c)).heap.size := by rw [size_set]; exact hs1
  have hot : (oN : Int) ≤ (oC : Int) := by omega
  have y3a := cell_later ((Below.refl _ _).alloc (Nat.le_refl _) (.cells #[] 27)) y3
  go_wp2_with fail
  clear x0 x1 x2 x3 r0 r1 r2 r3 f2 f3 q0 q1 q2 q3
  have hsz : (w1.setCell ⟨w.heap.size, 2, none⟩ (.slice f.a f.n f.c)).heap.size = w1.heap.size := size_set _ _ _
  generalize w1.setCell ⟨w.heap.size, 2, none⟩ (.slice f.a f.n f.c) = W1 at *
  go_loopw [3, 14] (fun o i wr => ∃ (k : Nat) (q : Row FsOpR), k ≤ oN ∧ o = .slice q.a q.n q.c ∧ i = .int .i64 k ∧ q.n = k ∧ Hid (OwnFsOpS W1.heap.size wr.heap.size wr q) ∧ Hid (datFsOpS q = (os.take k).map datFsOp) ∧ Below W1.heap.size W1 wr) (fun _ i _ => oN - (intOf i).toNat)
  case atStart => exact ⟨0, ⟨some ⟨w1.heap.size, 0, none⟩, 0, 0, []⟩, Nat.zero_le _, rfl, rfl, rfl, Lib.hid (by rw [← hsz]; exact (OwnFsOpS.lit W1 _ (Nat.le_refl _)).grow (by simp) (Nat.le_refl _)), Lib.hid rfl, (Below.refl _ _).alloc (Nat.le_refl _) _⟩
  case round =>
    obtain ⟨k, q, hk, rfl, rfl, hqk, HO, HQ, hb⟩ := hrel
    obtain ⟨qA, qN, qC, qs⟩ := q
    simp only at hqk
    subst hqk
    have BBr := BW1.trans (hb.mono BW1.size)
    by_cases hlt : qN < oN
    · obtain ⟨b, off, rfl, hbl, hcc⟩ := go.rowFsOp (by omega)
      obtain ⟨k0, k1, k2, k3⟩ := hcc qN hlt
      have cb : ∀ o, wr.cell? ⟨b, o, none⟩ = w.cell? ⟨b, o, none⟩ := fun o => BBr.cell (p := ⟨b, o, none⟩) hbl
      rw [← cb] at k0 k1 k2 k3
      have hi1 : (qN : Int) < (oN : Int) := by omega
      have hkx : qN < os.length := by rw [HOL.out]; exact hlt
      have hxn : (atFsOp os qN).dataN ≤ 1048576 := HDN.out _ hkx
      have HXR : Hid (rdFsOp wr (atFsOp os qN)) := Lib.hid (by rw [atFsOp_eq os qN hkx]; exact rdFsOp_below (HGO.out _ (List.getElem_mem hkx)) BBr (Nat.le_refl _))
      have HST : Hid ((os.take (qN + 1)).map datFsOp = (os.take qN).map datFsOp ++ [datFsOp (atFsOp os qN)]) := Lib.hid (by rw [List.take_succ_eq_append_getElem hkx, List.map_append, atFsOp_eq os qN hkx]; rfl)
      clear hcc cb hkx
      generalize atFsOp os qN = x at *
      obtain ⟨ok, onm, odst, xA, xN, xC, xL⟩ := x
      try simp only at k0 k1 k2 k3 hxn
      have hal := (Below.refl wr.heap.size wr).alloc (Nat.le_refl _) (.cells #[.int .i64 ok, .string onm, .string odst, .slice xA xN xC] 27)
      have E0 : (wr.alloc (.cells #[.int .i64 ok, .string onm, .string odst, .slice xA xN xC] 27)).cell? ⟨wr.heap.size, 0, none⟩ = some (.int .i64 ok) := by simp [go_sem]
      have E1 : (wr.alloc (.cells #[.int .i64 ok, .string onm, .string odst, .slice xA xN xC] 27)).cell? ⟨wr.heap.size, 1, none⟩ = some (.string onm) := by simp [go_sem]
      have E2 : (wr.alloc (.cells #[.int .i64 ok, .string onm, .string odst, .slice xA xN xC] 27)).cell? ⟨wr.heap.size, 2, none⟩ = some (.string odst) := by simp [go_sem]
      have E3 : (wr.alloc (.cells #[.int .i64 ok, .string onm, .string odst, .slice xA xN xC] 27)).cell? ⟨wr.heap.size, 3, none⟩ = some (.slice xA xN xC) := by simp [go_sem]
      have F3 : (wr.alloc (.cells #[.int .i64 ok, .string onm, .string odst, .slice xA xN xC] 27)).frozen? ⟨wr.heap.size, 3, none⟩ = false := by simp [go_sem]
      have HOW := Lib.hid (HO.out.below hal)
      have HXF := Lib.hid (rdFsOp_below HXR.out hal (Nat.le_refl _))
      have hwF : (wr.alloc (.cells #[.int .i64 ok, .string onm, .string odst, .slice xA xN xC] 27)).heap.size = wr.heap.size + 1 := by simp
      have hbF := hb.trans (hal.mono hb.size)
      have G3 := cell_later ((Below.refl _ _).alloc (Nat.le_refl _) (.cells #[] 5)) E3
      have HLIT : Hid (((wr.alloc (.cells #[.int .i64 ok, .string onm, .string odst, .slice xA xN xC] 27)).alloc (.cells #[] 5)).ownsRow (wr.heap.size + 1) 5 1 (.slice (some ⟨wr.heap.size + 1, 0, none⟩) 0 0) 0 (([] : List Int).map (.int .u8))) := Lib.hid (by rw [← hwF]; exact World.ownsRow_lit _ #[] 0 (Nat.le_refl _) (by unfold maxLen; omega) (by simp))
      have HXT := Lib.hid (Rd.below HXF.out ((Below.refl _ _).alloc (Nat.le_refl _) (.cells #[] 5)) (Nat.le_refl _))
      have hxl : xL.length = xN := HXF.out.len
      have hxm := HXF.out.le
      have hxm2 := HXF.out.max
      unfold maxLen at hxm2
      have hlen0 : ([] ++ xL.map (Value.int .u8)).length = 0 + xN := by simp [hxl]
      go_wp2_with (at_builtin; refine app_any rfl _ _ 22 rfl (wr.heap.size + 1) 5 Try.underlying22 ji jz0 jz1 jz2 rfl (by decide) (some ⟨wr.heap.size + 1, 0, none⟩) 0 0 [] rfl HLIT.out xA xN xC (xL.map (.int .u8)) rfl ?c1 HXT.out.news HXT.out.none (int_bytes xL) ?c2 ?c3 (by simp) ?_)
      case c2 => unfold maxLen; omega
      case c3 => omega
      intro A4 C4 w4 ho2 hb4
      have ho3 : w4.ownsRow (wr.heap.size + 1) 5 1 (.slice A4 xN C4) xN (xL.map (.int .u8)) := by simpa using ho2
      obtain ⟨hc4, hf4⟩ := bcell hb4
      have hz4 : wr.heap.size + 2 ≤ w4.heap.size := by have := hb4.size; simpa using this
      have e0 : w4.cell? ⟨wr.heap.size, 0, none⟩ = some (.int .i64 ok) := by rw [hc4 _ _ (Nat.lt_succ_self _)]; exact cell_later ((Below.refl _ _).alloc (Nat.le_refl _) _) E0
      have e1 : w4.cell? ⟨wr.heap.size, 1, none⟩ = some (.string onm) := by rw [hc4 _ _ (Nat.lt_succ_self _)]; exact cell_later ((Below.refl _ _).alloc (Nat.le_refl _) _) E1
      have e2 : w4.cell? ⟨wr.heap.size, 2, none⟩ = some (.string odst) := by rw [hc4 _ _ (Nat.lt_succ_self _)]; exact cell_later ((Below.refl _ _).alloc (Nat.le_refl _) _) E2
      have e3 : w4.cell? ⟨wr.heap.size, 3, none⟩ = some (.slice xA xN xC) := by rw [hc4 _ _ (Nat.lt_succ_self _)]; exact G3
      have f3 : w4.frozen? ⟨wr.heap.size, 3, none⟩ = false := by rw [hf4 _ _ (Nat.lt_succ_self _)]; simp [go_sem]
      have s0 : (w4.setCell ⟨wr.heap.size, 3, none⟩ (.slice A4 xN C4)).cell? ⟨wr.heap.size, 0, none⟩ = some (.int .i64 ok) := by rw [World.cell?_setCell_other _ _ _ _ (by simp)]; exact e0
      have s1 : (w4.setCell ⟨wr.heap.size, 3, none⟩ (.slice A4 xN C4)).cell? ⟨wr.heap.size, 1, none⟩ = some (.string onm) := by rw [World.cell?_setCell_other _ _ _ _ (by simp)]; exact e1
      have s2 : (w4.setCell ⟨wr.heap.size, 3, none⟩ (.slice A4 xN C4)).cell? ⟨wr.heap.size, 2, none⟩ = some (.string odst) := by rw [World.cell?_setCell_other _ _ _ _ (by simp)]; exact e2
      have s3 : (w4.setCell ⟨wr.heap.size, 3, none⟩ (.slice A4 xN C4)).cell? ⟨wr.heap.size, 3, none⟩ = some (.slice A4 xN C4) := World.cell?_setCell_same _ _ _ e3
      have hw4 := Win.set (lo := wr.heap.size) (hi := wr.heap.size + 1) w4 wr.heap.size 3 (.slice A4 xN C4) (by omega) (by omega)
      have hin4 : OwnS (encI .u8) 1 5 (wr.heap.size + 1) w4.heap.size w4 A4 xN C4 xL := OwnS.of (by rw [flat_encI]; exact ho3) hxl (by omega)
      have hin5 := hin4.win hw4 (Or.inl (Nat.le_refl _))
      have hsz5 : (w4.setCell ⟨wr.heap.size, 3, none⟩ (.slice A4 xN C4)).heap.size = w4.heap.size := size_set _ _ _
      have hbW5 : Below wr.heap.size wr (w4.setCell ⟨wr.heap.size, 3, none⟩ (.slice A4 xN C4)) := ((hal.trans ((Below.refl _ _).alloc (by simp) (.cells #[] 5))).trans (hb4.mono (Nat.le_succ _))).trans (hw4.below (Nat.le_refl _) (by omega))
      clear hc4 hf4 ho2 ho3 hin4 hw4
      have hb6 : Below wr.heap.size wr ((w4.setCell ⟨wr.heap.size, 3, none⟩ (.slice A4 xN C4)).alloc (.cells #[.int .i64 ok, .string onm, .string odst, .slice A4 xN C4] 27)) := hbW5.alloc (by rw [hsz5]; omega) _
      have HO6 := Lib.hid (HO.out.below hb6)
      have hnews := news_four (w4.setCell ⟨wr.heap.size, 3, none⟩ (.slice A4 xN C4)) (.int .i64 ok) (.string onm) (.string odst) (.slice A4 xN C4) 27
      rw [hsz5] at hnews
      have hin6 : OwnS (encI .u8) 1 5 (wr.heap.size + 1) ((w4.setCell ⟨wr.heap.size, 3, none⟩ (.slice A4 xN C4)).alloc (.cells #[.int .i64 ok, .string onm, .string odst, .slice A4 xN C4] 27)).heap.size ((w4.setCell ⟨wr.heap.size, 3, none⟩ (.slice A4 xN C4)).alloc (.cells #[.int .i64 ok, .string onm, .string odst, .slice A4 xN C4] 27)) A4 xN C4 xL := (hin5.below ((Below.refl _ _).alloc (Nat.le_refl _) _)).grow (by simp [hsz5]) (Nat.le_refl _)
      clear hbW5 hin5
      go_wp2_with (at_builtin; refine wpList_append_lies _ (by rfl) _ _ _ (by rfl) W1.heap.size 27 i0 _ 4 64 Try.underlying32 hi hz0 hz1 hz2 rfl (by decide) (.slice qA qN qC) qN (qs.flatMap encFsOp) (by rfl) HO6.out.nest.row.own ⟨w4.heap.size, 0, none⟩ 1 1 [.int .i64 ok, .string onm, .string odst, .slice A4 xN C4] (by rfl) (by rfl) hnews (one_fsOp ⟨ok, onm, odst, A4, xN, C4, []⟩) (by decide) (by unfold maxLen; omega) (by omega) (Nat.le_trans hb.size hb6.size) _ rfl ?_)
      intro g9 C9 w9 ho9 hg9 hor9 hlt9
      rw [← hsz] at ho9
      rw [show w4.heap.size + 1 = ((w4.setCell ⟨wr.heap.size, 3, none⟩ (.slice A4 xN C4)).alloc (.cells #[.int .i64 ok, .string onm, .string odst, .slice A4 xN C4] 27)).heap.size from by simp [hsz5]] at hor9
      have HN := Lib.hid (OwnFsOpS.snoc HO6.out (Nat.le_succ _) (Nat.le_trans hb.size (Nat.le_succ _)) ⟨ok, onm, odst, A4, xN, C4, xL⟩ g9 C9 hin6 ho9 hg9 hor9 (by show qN < 100000000; omega))
      have HQ2 : Hid (datFsOpS ⟨some ⟨g9, 0, none⟩, qN + 1, C9, qs ++ [⟨ok, onm, odst, A4, xN, C4, xL⟩]⟩ = (os.take (qN + 1)).map datFsOp) := Lib.hid (by
        rw [HST.out, ← HQ.out]
        unfold datFsOpS
        rw [List.map_append]
        rfl)
      have hb9 : Below W1.heap.size W1 w9 := (hb.trans (hb6.mono hb.size)).trans (below_grown hg9 (Nat.le_trans hb.size hb6.size) (fun k hk => (World.ownsRow.lt HO6.out.nest.row.own k hk).1))
      clear ho9 hg9 hor9 hin6 hb6 HO6 hnews
      go_wp2
      go_roundw
      case rel => exact ⟨qN + 1, ⟨some ⟨g9, 0, none⟩, qN + 1, C9, qs ++ [⟨ok, onm, odst, A4, xN, C4, xL⟩]⟩, by omega, rfl, by go_num, rfl, HN, HQ2, hb9⟩
      case measure => simp [intOf]; omega
    · obtain rfl : qN = oN := by omega
      have t0 := cell_later hb y0
      have t1 := cell_later hb y1
      have t2 := cell_later hb y2
      have t3 := cell_later hb y3
      have c0 := cell_later hb z0
      have c1 := cell_later hb z1
      have c2 := cell_later hb z2
      have c3 := cell_later hb z3
      obtain ⟨_, hf⟩ := bcell hb
      have g3 : wr.frozen? ⟨w.heap.size, 3, none⟩ = false := by rw [hf _ _ (by omega)]; exact sf3
      have p0 : wr.frozen? ⟨w.heap.size + 1, 0, none⟩ = false := by rw [hf _ _ (by omega)]; exact sq0
      have p1 : wr.frozen? ⟨w.heap.size + 1, 1, none⟩ = false := by rw [hf _ _ (by omega)]; exact sq1
      have p2 : wr.frozen? ⟨w.heap.size + 1, 2, none⟩ = false := by rw [hf _ _ (by omega)]; exact sq2
      have p3 : wr.frozen? ⟨w.heap.size + 1, 3, none⟩ = false := by rw [hf _ _ (by omega)]; exact sq3
      clear hf
      have u0 : (wr.setCell ⟨w.heap.size, 3, none⟩ (.slice qA qN qC)).cell? ⟨w.heap.size, 0, none⟩ = some (.int .i64 room) := by rw [World.cell?_setCell_other _ _ _ _ (by simp)]; exact t0
      have u1 : (wr.setCell ⟨w.heap.size, 3, none⟩ (.slice qA qN qC)).cell? ⟨w.heap.size, 1, none⟩ = some (.int .i64 fuse) := by rw [World.cell?_setCell_other _ _ _ _ (by simp)]; exact t1
      have u2 : (wr.setCell ⟨w.heap.size, 3, none⟩ (.slice qA qN qC)).cell? ⟨w.heap.size, 2, none⟩ = some (.slice f.a f.n f.c) := by rw [World.cell?_setCell_other _ _ _ _ (by simp)]; exact t2
      have u3 : (wr.setCell ⟨w.heap.size, 3, none⟩ (.slice qA qN qC)).cell? ⟨w.heap.size, 3, none⟩ = some (.slice qA qN qC) := World.cell?_setCell_same _ _ _ t3
      go_wp2
      refine bodyPost_ret (v := .agg #[.int .i64 room, .int .i64 fuse, .slice f.a f.n f.c, .slice qA qN qC]) (by simp [results, Try.results57, go_sem, c0, c1, c2, c3]) rfl ?_
      have hw2 := (Win.set (lo := w.heap.size) (hi := w.heap.size + 2) wr w.heap.size 3 (.slice qA qN qC) (by omega) (by omega)).trans ((((Win.set _ (w.heap.size + 1) 0 (.int .i64 room) (by omega) (by omega)).trans (Win.set _ (w.heap.size + 1) 1 (.int .i64 fuse) (by omega) (by omega))).trans (Win.set _ (w.heap.size + 1) 2 (.slice f.a f.n f.c) (by omega) (by omega))).trans (Win.set _ (w.heap.size + 1) 3 (.slice qA qN qC) (by omega) (by omega)))
      have of3 := (HOF.out.below hb).win hw2 (Or.inl (Nat.le_refl _))
      have oo3 := HO.out.win hw2 (Or.inl (by omega))
      refine ⟨⟨room, fuse, f.a, f.n, f.c, f.l, qA, qN, qC, qs⟩, rfl, ?_, ⟨⟨W1.heap.size, by omega, by simp only [size_set]; exact hb.size, ?_, by simp only [size_set]; exact oo3⟩, Nat.le_refl _⟩, BBr.trans (hw2.below (Nat.le_refl _) BBr.size)⟩
      · unfold datDisk; rw [← HDF.out, ← HQ.out]; rfl
      · rw [hsz]; exact of3.lo_le (by omega)
end Go.Proofs.Ytoodlmhnemamhaa

/- A block of four cells that can be written; what a drawn region loads, kept. -/
namespace Go.Proofs.Ytoodlmhnemamhaa
open Go.RowKit
/-- A block of four cells that can be written. -/
structure OutC (X : Nat) (a b v2 v3 : Value) (w : World) : Prop where
  c0 : w.cell? ⟨X, 0, none⟩ = some a
  c1 : w.cell? ⟨X, 1, none⟩ = some b
  c2 : w.cell? ⟨X, 2, none⟩ = some v2
  c3 : w.cell? ⟨X, 3, none⟩ = some v3
  f : ∀ o, o < 4 → w.frozen? ⟨X, o, none⟩ = false
theorem OutC.mk0 (w : World) (a b c d : Value) (t : TypeId) : OutC w.heap.size a b c d (w.alloc (.cells #[a, b, c, d] t)) := by
  refine ⟨by simp [go_sem], by simp [go_sem], by simp [go_sem], by simp [go_sem], fun o ho => ?_⟩
  have h5 : o = 0 ∨ o = 1 ∨ o = 2 ∨ o = 3 := by omega
  rcases h5 with rfl | rfl | rfl | rfl <;> simp [go_sem]
theorem OutC.lt {X : Nat} {a b v2 v3 : Value} {w : World} (h : OutC X a b v2 v3 w) : X < w.heap.size := World.block_lt_of_cell? _ _ h.c0
theorem OutC.block {X : Nat} {a b v2 v3 : Value} {w w' : World} (h : OutC X a b v2 v3 w) (hk : w'.heap[X]? = w.heap[X]?) : OutC X a b v2 v3 w' :=
  ⟨(World.cell?_of_block (a := ⟨X, 0, none⟩) hk).trans h.c0, (World.cell?_of_block (a := ⟨X, 1, none⟩) hk).trans h.c1, (World.cell?_of_block (a := ⟨X, 2, none⟩) hk).trans h.c2, (World.cell?_of_block (a := ⟨X, 3, none⟩) hk).trans h.c3, fun o ho => (World.frozen?_of_block (a := ⟨X, o, none⟩) hk).trans (h.f o ho)⟩
theorem OutC.below {X : Nat} {a b v2 v3 : Value} {w w' : World} (h : OutC X a b v2 v3 w) {B : Nat} (hb : Below B w w') (hX : X < B) : OutC X a b v2 v3 w' := h.block (hb.block X hX)
theorem OutC.later {X : Nat} {a b v2 v3 : Value} {w w' : World} (h : OutC X a b v2 v3 w) (hb : Below w.heap.size w w') : OutC X a b v2 v3 w' := h.block (hb.block X h.lt)
theorem OutC.win {X : Nat} {a b v2 v3 : Value} {w w' : World} {lo hi : Nat} (h : OutC X a b v2 v3 w) (hw : Win lo hi w w') (hX : X < lo ∨ hi ≤ X) : OutC X a b v2 v3 w' := h.block (hw.block X h.lt hX)
theorem OutC.set0 {X : Nat} {a b v2 v3 : Value} {w : World} (h : OutC X a b v2 v3 w) (v : Value) : OutC X v b v2 v3 (w.setCell ⟨X, 0, none⟩ v) :=
  ⟨World.cell?_setCell_same _ _ _ h.c0, by rw [World.cell?_setCell_other _ _ _ _ (by simp)]; exact h.c1, by rw [World.cell?_setCell_other _ _ _ _ (by simp)]; exact h.c2, by rw [World.cell?_setCell_other _ _ _ _ (by simp)]; exact h.c3, fun o ho => by rw [World.frozen?_setCell]; exact h.f o ho⟩
theorem OutC.set1 {X : Nat} {a b v2 v3 : Value} {w : World} (h : OutC X a b v2 v3 w) (v : Value) : OutC X a v v2 v3 (w.setCell ⟨X, 1, none⟩ v) :=
  ⟨by rw [World.cell?_setCell_other _ _ _ _ (by simp)]; exact h.c0, World.cell?_setCell_same _ _ _ h.c1, by rw [World.cell?_setCell_other _ _ _ _ (by simp)]; exact h.c2, by rw [World.cell?_setCell_other _ _ _ _ (by simp)]; exact h.c3, fun o ho => by rw [World.frozen?_setCell]; exact h.f o ho⟩
theorem OutC.set2 {X : Nat} {a b v2 v3 : Value} {w : World} (h : OutC X a b v2 v3 w) (v : Value) : OutC X a b v v3 (w.setCell ⟨X, 2, none⟩ v) :=
  ⟨by rw [World.cell?_setCell_other _ _ _ _ (by simp)]; exact h.c0, by rw [World.cell?_setCell_other _ _ _ _ (by simp)]; exact h.c1, World.cell?_setCell_same _ _ _ h.c2, by rw [World.cell?_setCell_other _ _ _ _ (by simp)]; exact h.c3, fun o ho => by rw [World.frozen?_setCell]; exact h.f o ho⟩
theorem OutC.set3 {X : Nat} {a b v2 v3 : Value} {w : World} (h : OutC X a b v2 v3 w) (v : Value) : OutC X a b v2 v (w.setCell ⟨X, 3, none⟩ v) :=
  ⟨by rw [World.cell?_setCell_other _ _ _ _ (by simp)]; exact h.c0, by rw [World.cell?_setCell_other _ _ _ _ (by simp)]; exact h.c1, by rw [World.cell?_setCell_other _ _ _ _ (by simp)]; exact h.c2, World.cell?_setCell_same _ _ _ h.c3, fun o ho => by rw [World.frozen?_setCell]; exact h.f o ho⟩
/-- The four stores of a whole disk. -/
theorem win_four (w : World) (X lo hi : Nat) (h1 : lo ≤ X) (h2 : X < hi) (a b c d : Value) : Win lo hi w ((((w.setCell ⟨X, 0, none⟩ a).setCell ⟨X, 1, none⟩ b).setCell ⟨X, 2, none⟩ c).setCell ⟨X, 3, none⟩ d) :=
  (((Win.set w X 0 a h1 h2).trans (Win.set _ X 1 b h1 h2)).trans (Win.set _ X 2 c h1 h2)).trans (Win.set _ X 3 d h1 h2)
theorem keepQB {w w' : World} {X o1 o2 : Nat} {v1 v2 : Value} (hb : Below w.heap.size w w') (h : w.cell? ⟨X, o1, none⟩ = some v1 ∧ w.cell? ⟨X, o2, none⟩ = some v2) : w'.cell? ⟨X, o1, none⟩ = some v1 ∧ w'.cell? ⟨X, o2, none⟩ = some v2 :=
  ⟨cell_later hb h.1, cell_later hb h.2⟩
theorem keepQS {w : World} {X Y o o1 o2 : Nat} {v v1 v2 : Value} (hne : Y < X) (h : w.cell? ⟨X, o1, none⟩ = some v1 ∧ w.cell? ⟨X, o2, none⟩ = some v2) : (w.setCell ⟨Y, o, none⟩ v).cell? ⟨X, o1, none⟩ = some v1 ∧ (w.setCell ⟨Y, o, none⟩ v).cell? ⟨X, o2, none⟩ = some v2 :=
  ⟨cell_win (Win.set (lo := Y) (hi := Y + 1) w Y o v (Nat.le_refl _) (Nat.lt_succ_self _)) h.1 (Or.inr hne), cell_win (Win.set (lo := Y) (hi := Y + 1) w Y o v (Nat.le_refl _) (Nat.lt_succ_self _)) h.2 (Or.inr hne)⟩
theorem keepW {w w' : World} {X o1 o2 o3 o4 : Nat} {v1 v2 v3 v4 : Value} (hb : Below w.heap.size w w') (h : w.cell? ⟨X, o1, none⟩ = some v1 ∧ w.cell? ⟨X, o2, none⟩ = some v2 ∧ w.cell? ⟨X, o3, none⟩ = some v3 ∧ w.cell? ⟨X, o4, none⟩ = some v4) : w'.cell? ⟨X, o1, none⟩ = some v1 ∧ w'.cell? ⟨X, o2, none⟩ = some v2 ∧ w'.cell? ⟨X, o3, none⟩ = some v3 ∧ w'.cell? ⟨X, o4, none⟩ = some v4 :=
  ⟨cell_later hb h.1, cell_later hb h.2.1, cell_later hb h.2.2.1, cell_later hb h.2.2.2⟩
theorem keepWA {w : World} {X o1 o2 o3 o4 : Nat} {v1 v2 v3 v4 : Value} (h : w.cell? ⟨X, o1, none⟩ = some v1 ∧ w.cell? ⟨X, o2, none⟩ = some v2 ∧ w.cell? ⟨X, o3, none⟩ = some v3 ∧ w.cell? ⟨X, o4, none⟩ = some v4) (o : Obj) : (w.alloc o).cell? ⟨X, o1, none⟩ = some v1 ∧ (w.alloc o).cell? ⟨X, o2, none⟩ = some v2 ∧ (w.alloc o).cell? ⟨X, o3, none⟩ = some v3 ∧ (w.alloc o).cell? ⟨X, o4, none⟩ = some v4 :=
  keepW ((Below.refl _ _).alloc (Nat.le_refl _) o) h
theorem keepWW {w w' : World} {lo hi X o1 o2 o3 o4 : Nat} {v1 v2 v3 v4 : Value} (hw : Win lo hi w w') (hd : X < lo ∨ hi ≤ X) (h : w.cell? ⟨X, o1, none⟩ = some v1 ∧ w.cell? ⟨X, o2, none⟩ = some v2 ∧ w.cell? ⟨X, o3, none⟩ = some v3 ∧ w.cell? ⟨X, o4, none⟩ = some v4) : w'.cell? ⟨X, o1, none⟩ = some v1 ∧ w'.cell? ⟨X, o2, none⟩ = some v2 ∧ w'.cell? ⟨X, o3, none⟩ = some v3 ∧ w'.cell? ⟨X, o4, none⟩ = some v4 :=
  ⟨cell_win hw h.1 hd, cell_win hw h.2.1 hd, cell_win hw h.2.2.1 hd, cell_win hw h.2.2.2 hd⟩
theorem keepWS {w : World} {X Y o o1 o2 o3 o4 : Nat} {v v1 v2 v3 v4 : Value} (hne : Y < X) (h : w.cell? ⟨X, o1, none⟩ = some v1 ∧ w.cell? ⟨X, o2, none⟩ = some v2 ∧ w.cell? ⟨X, o3, none⟩ = some v3 ∧ w.cell? ⟨X, o4, none⟩ = some v4) : (w.setCell ⟨Y, o, none⟩ v).cell? ⟨X, o1, none⟩ = some v1 ∧ (w.setCell ⟨Y, o, none⟩ v).cell? ⟨X, o2, none⟩ = some v2 ∧ (w.setCell ⟨Y, o, none⟩ v).cell? ⟨X, o3, none⟩ = some v3 ∧ (w.setCell ⟨Y, o, none⟩ v).cell? ⟨X, o4, none⟩ = some v4 :=
  keepWW (Win.set (lo := Y) (hi := Y + 1) w Y o v (Nat.le_refl _) (Nat.lt_succ_self _)) (Or.inr hne) h
theorem keepWG {w w' : World} {X o1 o2 o3 o4 : Nat} {v1 v2 v3 v4 : Value} {r : Option Nat} (hX : ∀ q, r = some q → q < X) (hg : w.grownBy w' r) (h : w.cell? ⟨X, o1, none⟩ = some v1 ∧ w.cell? ⟨X, o2, none⟩ = some v2 ∧ w.cell? ⟨X, o3, none⟩ = some v3 ∧ w.cell? ⟨X, o4, none⟩ = some v4) : w'.cell? ⟨X, o1, none⟩ = some v1 ∧ w'.cell? ⟨X, o2, none⟩ = some v2 ∧ w'.cell? ⟨X, o3, none⟩ = some v3 ∧ w'.cell? ⟨X, o4, none⟩ = some v4 := by
  have hk := hg.block X (World.block_lt_of_cell? _ _ h.1) (fun e => Nat.lt_irrefl _ (hX X e.symm))
  exact ⟨(World.cell?_of_block (a := ⟨X, o1, none⟩) hk).trans h.1, (World.cell?_of_block (a := ⟨X, o2, none⟩) hk).trans h.2.1, (World.cell?_of_block (a := ⟨X, o3, none⟩) hk).trans h.2.2.1, (World.cell?_of_block (a := ⟨X, o4, none⟩) hk).trans h.2.2.2⟩
theorem OutC.grown {X : Nat} {a b v2 v3 : Value} {w w' : World} {r : Option Nat} (h : OutC X a b v2 v3 w) (hg : w.grownBy w' r) (hr : ∀ q, r = some q → X < q) : OutC X a b v2 v3 w' :=
  h.block (hg.block X h.lt (fun e => Nat.lt_irrefl _ (hr X e.symm)))
end Go.Proofs.Ytoodlmhnemamhaa

/- What the rounds of copyDisk leave. -/
namespace Go.Proofs.Ytoodlmhnemamhaa
open Go.RowKit
/-- What a round of copyDisk leaves: a file. -/
theorem fileRound {X H : Nat} {WF w4 w9 : World} {a b v3 : Value} {qA : Option Addr} {qN qC : Nat} {qs : List FileR} {nm : ByteArray} {A4 : Option Addr} {N4 C4 : Nat} {xL : List Int} {g9 C9 : Nat}
    (hO : OwnFileS (X + 1) H WF ⟨qA, qN, qC, qs⟩) (hC : OutC X a b (.slice qA qN qC) v3 WF) (hX : X + 1 ≤ H) (hb4 : Below WF.heap.size WF.drew w4) (ho4 : OwnI .u8 5 WF.heap.size w4.heap.size w4 A4 N4 C4 xL)
    (ho9 : w9.ownsRow (X + 1) 71 2 (.slice (some ⟨g9, 0, none⟩) (qN + 1) C9) (qN + 1) (qs.flatMap encFile ++ [.string nm, .slice A4 N4 C4])) (hg9 : (w4.alloc (.cells #[.string nm, .slice A4 N4 C4] 71)).grownBy w9 (Value.slice qA qN qC).ownBlock)
    (hor9 : (Value.slice qA qN qC).ownBlock = some g9 ∨ g9 = (w4.alloc (.cells #[.string nm, .slice A4 N4 C4] 71)).heap.size) (hsm : qN < 100000000) :
    OwnFileS (X + 1) (w9.setCell ⟨X, 2, none⟩ (.slice (some ⟨g9, 0, none⟩) (qN + 1) C9)).heap.size (w9.setCell ⟨X, 2, none⟩ (.slice (some ⟨g9, 0, none⟩) (qN + 1) C9)) ⟨some ⟨g9, 0, none⟩, qN + 1, C9, qs ++ [⟨nm, A4, N4, C4, xL⟩]⟩ ∧
    OutC X a b (.slice (some ⟨g9, 0, none⟩) (qN + 1) C9) v3 (w9.setCell ⟨X, 2, none⟩ (.slice (some ⟨g9, 0, none⟩) (qN + 1) C9)) ∧ Below X WF (w9.setCell ⟨X, 2, none⟩ (.slice (some ⟨g9, 0, none⟩) (qN + 1) C9)) := by
  have htop := hO.nest.row.top
  have hBW : Below WF.heap.size WF w4 := (show Below WF.heap.size WF WF.drew from (Below.refl _ _).drew).trans hb4
  have BA := hBW.alloc hBW.size (.cells #[.string nm, .slice A4 N4 C4] 71)
  have HOA := hO.below BA
  have hq : ∀ q, (Value.slice qA qN qC).ownBlock = some q → X < q := fun q hq => (World.ownsRow.lt hO.nest.row.own q hq).1
  have hin := ((ho4.toS.below ((Below.refl w4.heap.size w4).alloc (Nat.le_refl _) (.cells #[.string nm, .slice A4 N4 C4] 71))).grow (by simp) (Nat.le_refl _))
  have HN := OwnFileS.snoc HOA htop (Nat.le_trans hX htop) ⟨nm, A4, N4, C4, xL⟩ g9 C9 hin ho9 hg9 hor9 (by show qN < 100000000; exact hsm)
  have hwS := Win.set (lo := X) (hi := X + 1) w9 X 2 (.slice (some ⟨g9, 0, none⟩) (qN + 1) C9) (Nat.le_refl _) (Nat.lt_succ_self _)
  have hc9 := (hC.later BA).grown hg9 hq
  have hs9 : X ≤ w9.heap.size := Nat.le_of_lt hc9.lt
  refine ⟨by rw [size_set]; exact HN.win hwS (Or.inl (Nat.le_refl _)), hc9.set2 _, ?_⟩
  exact ((BA.mono (by omega)).trans (below_grown hg9 (by have := BA.size; omega) (fun q hqq => Nat.le_of_lt (hq q hqq)))).trans (hwS.below (Nat.le_refl _) hs9)
/-- What a round of copyDisk leaves: an operation. -/
theorem opRound {X m H : Nat} {WF w4 w9 : World} {a b v2 : Value} {qA : Option Addr} {qN qC : Nat} {qs : List FsOpR} {x : FsOpR} {g9 C9 : Nat}
    (hO : OwnFsOpS m H WF ⟨qA, qN, qC, qs⟩) (hC : OutC X a b v2 (.slice qA qN qC) WF) (hX : X < m) (hm : m ≤ H) (hb4 : Below WF.heap.size WF.drew w4) (ho4 : OwnS (encI .u8) 1 5 WF.heap.size w4.heap.size w4 x.dataA x.dataN x.dataC x.data)
    (ho9 : w9.ownsRow m 27 4 (.slice (some ⟨g9, 0, none⟩) (qN + 1) C9) (qN + 1) (qs.flatMap encFsOp ++ [.int .i64 x.kind, .string x.name, .string x.dst, .slice x.dataA x.dataN x.dataC])) (hg9 : (w4.alloc (.cells #[.int .i64 x.kind, .string x.name, .string x.dst, .slice x.dataA x.dataN x.dataC] 27)).grownBy w9 (Value.slice qA qN qC).ownBlock)
    (hor9 : (Value.slice qA qN qC).ownBlock = some g9 ∨ g9 = (w4.alloc (.cells #[.int .i64 x.kind, .string x.name, .string x.dst, .slice x.dataA x.dataN x.dataC] 27)).heap.size) (hsm : qN < 100000000) :
    OwnFsOpS m (w9.setCell ⟨X, 3, none⟩ (.slice (some ⟨g9, 0, none⟩) (qN + 1) C9)).heap.size (w9.setCell ⟨X, 3, none⟩ (.slice (some ⟨g9, 0, none⟩) (qN + 1) C9)) ⟨some ⟨g9, 0, none⟩, qN + 1, C9, qs ++ [x]⟩ ∧
    OutC X a b v2 (.slice (some ⟨g9, 0, none⟩) (qN + 1) C9) (w9.setCell ⟨X, 3, none⟩ (.slice (some ⟨g9, 0, none⟩) (qN + 1) C9)) ∧ Below X WF (w9.setCell ⟨X, 3, none⟩ (.slice (some ⟨g9, 0, none⟩) (qN + 1) C9)) ∧
    ∀ (F : Row FileR), OwnFileS (X + 1) m WF F → OwnFileS (X + 1) m (w9.setCell ⟨X, 3, none⟩ (.slice (some ⟨g9, 0, none⟩) (qN + 1) C9)) F := by
  have htop := hO.nest.row.top
  have hBW : Below WF.heap.size WF w4 := (show Below WF.heap.size WF WF.drew from (Below.refl _ _).drew).trans hb4
  have BA := hBW.alloc hBW.size (.cells #[.int .i64 x.kind, .string x.name, .string x.dst, .slice x.dataA x.dataN x.dataC] 27)
  have HOA := hO.below BA
  have hq : ∀ q, (Value.slice qA qN qC).ownBlock = some q → m ≤ q := fun q hq => (World.ownsRow.lt hO.nest.row.own q hq).1
  have hin := ((ho4.below ((Below.refl w4.heap.size w4).alloc (Nat.le_refl _) (.cells #[.int .i64 x.kind, .string x.name, .string x.dst, .slice x.dataA x.dataN x.dataC] 27))).grow (by simp) (Nat.le_refl _))
  have HN := OwnFsOpS.snoc HOA htop (Nat.le_trans hm htop) x g9 C9 hin ho9 hg9 hor9 (by show qN < 100000000; exact hsm)
  have hwS := Win.set (lo := X) (hi := X + 1) w9 X 3 (.slice (some ⟨g9, 0, none⟩) (qN + 1) C9) (Nat.le_refl _) (Nat.lt_succ_self _)
  have hc9 := (hC.later BA).grown hg9 (fun q hqq => Nat.lt_of_lt_of_le hX (hq q hqq))
  have hs9 : X ≤ w9.heap.size := Nat.le_of_lt hc9.lt
  refine ⟨by rw [size_set]; exact HN.win hwS (Or.inl hX), hc9.set3 _, ?_, ?_⟩
  · exact ((BA.mono (by omega)).trans (below_grown hg9 (by have := BA.size; omega) (fun q hqq => by have := hq q hqq; omega))).trans (hwS.below (Nat.le_refl _) hs9)
  · intro F hF
    have h1 := hF.below BA
    have h2 := h1.win (Win.of_grown (lo := m) (hi := w9.heap.size + m) hg9 (fun q hqq => ⟨hq q hqq, by have h3 := HOA.nest.row.lt q hqq; have h4 := hg9.size; have h5 := BA.size; omega⟩)) (Or.inr (Nat.le_refl _))
    exact h2.win hwS (Or.inl (Nat.le_refl _))
end Go.Proofs.Ytoodlmhnemamhaa

/- copyDisk of the program. -/
namespace Go.Proofs.Ytoodlmhnemamhaa
open Go.RowKit
set_option maxRecDepth 100000 in
set_option maxHeartbeats 12800000 in
theorem copyDisk_any (y : DiskR) (w : World) (g : rdDisk w y) (hn : bulkDisk y ≤ 1048576) (n12 : y.filesN ≤ 10000000) (n60 : y.waitN ≤ 10000000) :
    Calls Try.prog 58 #[.agg #[.int .i64 y.room, .int .i64 y.fuse, .slice y.filesA y.filesN y.filesC, .slice y.waitA y.waitN y.waitC]] w fun e w' => RetDO (datDisk y) w e w' := by
  obtain ⟨room, fuse, fA, fN, fC, fs, oA, oN, oC, os⟩ := y
  obtain ⟨⟨gf, gfi⟩, go, goi⟩ := g
  unfold bulkDisk at hn
  simp only [fR, oR] at gf gfi go goi hn n12 n60 ⊢
  have HSB : Hid (sizeF (datFileS ⟨fA, fN, fC, fs⟩) ≤ 10000000) := Lib.hid (by have := size_bulk (w := w) (y := ⟨fA, fN, fC, fs⟩) ⟨gf, gfi⟩; omega)
  have HZ : Hid (∀ f ∈ fs, f.dataN ≤ 10000000) := Lib.hid (fun f hf => by
    have h1 := le_sizeF (datFileS ⟨fA, fN, fC, fs⟩) (datFile f) (List.mem_map_of_mem hf)
    have h2 := (gfi f hf).len
    have h4 := HSB.out
    unfold datFile at h1
    simp only at h1
    have h3 : f.data.length = f.dataN := h2
    omega)
  have HFL : Hid (fs.length = fN) := Lib.hid gf.len
  have HOL : Hid (os.length = oN) := Lib.hid go.len
  have HDN : Hid (∀ k, k < os.length → (atFsOp os k).dataN ≤ 1048576) := Lib.hid (fun k hk => by
    have h1 := preFsOp_top os k hk
    have h2 : bulkFsOpS ⟨oA, oN, oC, os⟩ = oN + preFsOp os os.length := rfl
    have h3 : (atFsOp os k).dataN ≤ bulkFsOp (atFsOp os k) := by unfold bulkFsOp; omega
    omega)
  have om := go.max
  have ol := go.le
  have fm := gf.max
  have fl := gf.le
  unfold maxLen at om fm
  have hb0 := (((Below.refl w.heap.size w).alloc (Nat.le_refl _) (.cells #[.int .i64 room, .int .i64 fuse, .slice fA fN fC, .slice oA oN oC] 34)).alloc (by simp) (.cells #[.int .i64 0, .int .i64 0, .slice none 0 0, .slice none 0 0] 34)).alloc (by simp; omega) (.cells #[.int .i64 room, .int .i64 fuse, .slice none 0 0, .slice none 0 0] 34)
  have HGO : Hid (∀ x ∈ os, rdFsOp w x) := Lib.hid goi
  have HGF : Hid (∀ x ∈ fs, rdFile w x) := Lib.hid gfi
  obtain ⟨i0, hi, hz0, hz1, hz2⟩ := info_parts infoFsOp
  obtain ⟨i1, ji, jz0, jz1, jz2⟩ := info_parts infoFile
  have HDT : Hid (datDisk ⟨room, fuse, fA, fN, fC, fs, oA, oN, oC, os⟩ = (room, fuse, (fs.take fN).map datFile, (os.take oN).map datFsOp)) := Lib.hid (by rw [← HOL.out, ← HFL.out, List.take_length, List.take_length]; rfl)
  have HAA := OutC.mk0 w (.int .i64 room) (.int .i64 fuse) (.slice fA fN fC) (.slice oA oN oC) 34
  have HBB := OutC.mk0 (w.alloc (.cells #[.int .i64 room, .int .i64 fuse, .slice fA fN fC, .slice oA oN oC] 34)) (.int .i64 0) (.int .i64 0) (.slice none 0 0) (.slice none 0 0) 34
  have HCC := OutC.mk0 ((w.alloc (.cells #[.int .i64 room, .int .i64 fuse, .slice fA fN fC, .slice oA oN oC] 34)).alloc (.cells #[.int .i64 0, .int .i64 0, .slice none 0 0, .slice none 0 0] 34)) (.int .i64 room) (.int .i64 fuse) (.slice none 0 0) (.slice none 0 0) 34
  have HA := Lib.hid ((HAA.later ((Below.refl _ _).alloc (Nat.le_refl _) (.cells #[.int .i64 0, .int .i64 0, .slice none 0 0, .slice none 0 0] 34))).later ((Below.refl _ _).alloc (Nat.le_refl _) (.cells #[.int .i64 room, .int .i64 fuse, .slice none 0 0, .slice none 0 0] 34)))
  have HB := Lib.hid (HBB.later ((Below.refl _ _).alloc (Nat.le_refl _) (.cells #[.int .i64 room, .int .i64 fuse, .slice none 0 0, .slice none 0 0] 34)))
  have HC := Lib.hid HCC
  rw [show ((w.alloc (.cells #[.int .i64 room, .int .i64 fuse, .slice fA fN fC, .slice oA oN oC] 34)).alloc (.cells #[.int .i64 0, .int .i64 0, .slice none 0 0, .slice none 0 0] 34)).heap.size = w.heap.size + 2 from by simp] at HC
  rw [show (w.alloc (.cells #[.int .i64 room, .int .i64 fuse, .slice fA fN fC, .slice oA oN oC] 34)).heap.size = w.heap.size + 1 from by simp] at HB
  clear HAA HBB HCC
  have a2 := HA.out.c2
  have hs0 : w.heap.size + 3 = (((w.alloc (.cells #[.int .i64 room, .int .i64 fuse, .slice fA fN fC, .slice oA oN oC] 34)).alloc (.cells #[.int .i64 0, .int .i64 0, .slice none 0 0, .slice none 0 0] 34)).alloc (.cells #[.int .i64 room, .int .i64 fuse, .slice none 0 0, .slice none 0 0] 34)).heap.size := by simp
  rw [HDT.out]
  clear gfi goi hn HDT HSB
  go_enter Try.func58, Try.ntmps58
  go_wp2_with fail
  generalize ((w.alloc (.cells #[.int .i64 room, .int .i64 fuse, .slice fA fN fC, .slice oA oN oC] 34)).alloc (.cells #[.int .i64 0, .int .i64 0, .slice none 0 0, .slice none 0 0] 34)).alloc (.cells #[.int .i64 room, .int .i64 fuse, .slice none 0 0, .slice none 0 0] 34) = W0 at *
  go_loopw [16] (fun i wr => ∃ (k : Nat) (q : Row FileR), k ≤ fN ∧ i = .int .i64 k ∧ q.n = k ∧ Hid (OwnFileS (w.heap.size + 3) wr.heap.size wr q) ∧ Hid (datFileS q = (fs.take k).map datFile) ∧ Hid (OutC (w.heap.size + 2) (.int .i64 room) (.int .i64 fuse) (.slice q.a q.n q.c) (.slice none 0 0) wr) ∧ Below (w.heap.size + 2) W0 wr) (fun i _ => fN - (intOf i).toNat)
  case atStart => exact ⟨0, ⟨none, 0, 0, []⟩, Nat.zero_le _, rfl, rfl, Lib.hid (OwnFileS.nil _ _), Lib.hid rfl, HC, Below.refl _ _⟩
  case round =>
    obtain ⟨k, q, hk, rfl, hqk, HO, HQ, HCr, hb⟩ := hrel
    obtain ⟨qA, qN, qC, qs⟩ := q
    simp only at hqk
    subst hqk
    have BBr := hb0.trans (hb.mono (by omega))
    have hsr : w.heap.size + 3 ≤ wr.heap.size := by have := hb.size; omega
    by_cases hlt : qN < fN
    · obtain ⟨b, off, rfl, hbl, hcc⟩ := gf.rowFile (by omega)
      obtain ⟨k0, k1⟩ := hcc qN hlt
      have cb : ∀ o, wr.cell? ⟨b, o, none⟩ = w.cell? ⟨b, o, none⟩ := fun o => BBr.cell (p := ⟨b, o, none⟩) hbl
      rw [← cb] at k0 k1
      have hi1 : (qN : Int) < (fN : Int) := by omega
      have hkx : qN < fs.length := by rw [HFL.out]; exact hlt
      have hxn : (atFile fs qN).dataN ≤ 10000000 := by rw [atFile_eq fs qN hkx]; exact HZ.out _ (List.getElem_mem hkx)
      have HXR : Hid (rdFile wr (atFile fs qN)) := Lib.hid (by rw [atFile_eq fs qN hkx]; exact rdFile_below (HGF.out _ (List.getElem_mem hkx)) BBr (Nat.le_refl _))
      have HST : Hid ((fs.take (qN + 1)).map datFile = (fs.take qN).map datFile ++ [datFile (atFile fs qN)]) := Lib.hid (by rw [List.take_succ_eq_append_getElem hkx, List.map_append, atFile_eq fs qN hkx]; rfl)
      clear hcc cb hkx
      generalize atFile fs qN = x at *
      obtain ⟨nm, xA, xN, xC, xL⟩ := x
      try simp only at k0 k1 hxn
      have hal := (Below.refl wr.heap.size wr).alloc (Nat.le_refl _) (.cells #[.string nm, .slice xA xN xC] 71)
      have E0 : (wr.alloc (.cells #[.string nm, .slice xA xN xC] 71)).cell? ⟨wr.heap.size, 0, none⟩ = some (.string nm) := by simp [go_sem]
      have E1 : (wr.alloc (.cells #[.string nm, .slice xA xN xC] 71)).cell? ⟨wr.heap.size, 1, none⟩ = some (.slice xA xN xC) := by simp [go_sem]
      have HOF := Lib.hid (HO.out.below hal)
      have HCF := Lib.hid (HCr.out.later hal)
      have HXF := Lib.hid (rdFile_below HXR.out hal (Nat.le_refl _))
      have hwF : (wr.alloc (.cells #[.string nm, .slice xA xN xC] 71)).heap.size = wr.heap.size + 1 := by simp
      have hbF := hb.trans (hal.mono (by omega))
      clear a2 hal
      go_wp2_with fail
      generalize wr.alloc (.cells #[.string nm, .slice xA xN xC] 71) = WF at *
      have hbD : Below WF.heap.size WF WF.drew := (Below.refl _ _).drew
      have HXD := Lib.hid (rdFile_below HXF.out hbD (Nat.le_refl _))
      have K0 : WF.drew.cell? ⟨w.heap.size + 2, 2, none⟩ = some (.slice qA qN qC) := HCF.out.c2
      have J0 : WF.drew.cell? ⟨wr.heap.size, 0, none⟩ = some (.string nm) := E0
      have J1 : WF.drew.cell? ⟨wr.heap.size, 1, none⟩ = some (.slice xA xN xC) := E1
      have hqg : ∀ q, (Value.slice qA qN qC).ownBlock = some q → q < wr.heap.size := fun q hq => HOF.out.nest.row.lt q hq
      have hqo : ∀ q, (Value.slice qA qN qC).ownBlock = some q → w.heap.size + 2 < q := fun q hq => (World.ownsRow.lt HOF.out.nest.row.own q hq).1
      have hXlt : w.heap.size + 2 < wr.heap.size := by omega
      go_region_law (first
          | (go_simp; go_at_call 56; refine (copyBytes_any xA xN xC xL _ HXD.out (by omega)).mono ?_; rintro e w4 ⟨A4, N4, C4, rfl, ho4, hb4⟩; have K4 := cell_later hb4 K0; have L4 := cell_later hb4 J0; have K5 := cell_later ((Below.refl w4.heap.size w4).alloc (Nat.le_refl _) (.cells #[.string nm, .slice A4 N4 C4] 71)) K4)
          | (refine step_append_lies _ (by rfl) _ _ _ (by rfl) (w.heap.size + 3) 71 i1 _ 2 40 Try.underlying31 ji jz0 jz1 jz2 rfl (by decide) (.slice qA qN qC) qN (qs.flatMap encFile) (by rfl) ((HOF.out.below ((hbD.trans hb4).alloc (hbD.trans hb4).size _)).nest.row.own) ⟨w4.heap.size, 0, none⟩ 1 1 [.string nm, .slice A4 N4 C4] (by rfl) (by rfl) (news_twoB w4 _ _ _) (one_file ⟨nm, A4, N4, C4, []⟩) (by decide) (by unfold maxLen; omega) (by omega) (by have := ((hbD.trans hb4).alloc (hbD.trans hb4).size (.cells #[.string nm, .slice A4 N4 C4] 71)).size; omega) _ rfl ?_; rintro g9 C9 w9 ho9 hg9 hor9 hlt9; have HC9 := ((HCF.out.later (hbD.trans hb4)).later ((Below.refl _ _).alloc (Nat.le_refl _) (.cells #[.string nm, .slice A4 N4 C4] 71))).grown hg9 hqo; have M9 := HC9.c2; have N9 := HC9.f 2 (by omega)))
      all_goals
        have ⟨HN, HC2, hb9⟩ := fileRound (X := w.heap.size + 2) HOF.out HCF.out (by omega) hb4 ho4 ho9 hg9 (by simpa using hor9) (by omega)
        have HN2 := Lib.hid HN
        have HC3 := Lib.hid HC2
        have hb10 := hbF.trans hb9
        clear HN HC2 hb9 ho9 hg9 hor9 hb4 ho4 K0 K4 K5 L4 J0 J1 M9 N9 HC9 hlt9
        have HQ2 : Hid (datFileS ⟨some ⟨g9, 0, none⟩, qN + 1, C9, qs ++ [⟨nm, A4, N4, C4, xL⟩]⟩ = (fs.take (qN + 1)).map datFile) := Lib.hid (by
          rw [HST.out, ← HQ.out]
          unfold datFileS
          rw [List.map_append]
          rfl)
        go_wp2
        go_roundw
        case rel => exact ⟨qN + 1, ⟨some ⟨g9, 0, none⟩, qN + 1, C9, qs ++ [⟨nm, A4, N4, C4, xL⟩]⟩, by omega, by go_num, rfl, HN2, HQ2, HC3, hb10⟩
        case measure => simp [intOf]; omega
    · obtain rfl : qN = fN := by omega
      obtain ⟨V, hV⟩ : ∃ V, V = wr := ⟨wr, rfl⟩
      subst hV
      have HAr := Lib.hid (HA.out.below hb (by omega))
      have HBr := Lib.hid (HB.out.below hb (by omega))
      have a3 := HAr.out.c3
      clear HA HB HC
      go_wp2_with fail
      go_loopw [35] (fun i wr => ∃ (k : Nat) (q : Row FsOpR), k ≤ oN ∧ i = .int .i64 k ∧ q.n = k ∧ Hid (OwnFsOpS V.heap.size wr.heap.size wr q) ∧ Hid (datFsOpS q = (os.take k).map datFsOp) ∧ Hid (OutC (w.heap.size + 2) (.int .i64 room) (.int .i64 fuse) (.slice qA qN qC) (.slice q.a q.n q.c) wr) ∧ Hid (OwnFileS (w.heap.size + 3) V.heap.size wr ⟨qA, qN, qC, qs⟩) ∧ Below (w.heap.size + 2) V wr) (fun i _ => oN - (intOf i).toNat)
      case atStart => exact ⟨0, ⟨none, 0, 0, []⟩, Nat.zero_le _, rfl, rfl, Lib.hid (OwnFsOpS.nil _ _), Lib.hid rfl, HCr, HO, Below.refl _ _⟩
      case round =>
        obtain ⟨k, q, hk2, rfl, hqk, HOo, HQo, HCo, HFo, hbo⟩ := hrel
        obtain ⟨pA, pN, pC, ps⟩ := q
        simp only at hqk
        subst hqk
        have BBo := BBr.trans (hbo.mono (by omega))
        have hsz2 : V.heap.size ≤ wr.heap.size := hbo.size
        by_cases hlt2 : pN < oN
        · obtain ⟨b, off, rfl, hbl, hcc⟩ := go.rowFsOp (by omega)
          obtain ⟨k0, k1, k2, k3⟩ := hcc pN hlt2
          have cb : ∀ o, wr.cell? ⟨b, o, none⟩ = w.cell? ⟨b, o, none⟩ := fun o => BBo.cell (p := ⟨b, o, none⟩) hbl
          rw [← cb] at k0 k1 k2 k3
          have hi1 : (pN : Int) < (oN : Int) := by omega
          have hkx : pN < os.length := by rw [HOL.out]; exact hlt2
          have hxn : (atFsOp os pN).dataN ≤ 1048576 := HDN.out _ hkx
          have HXR : Hid (rdFsOp wr (atFsOp os pN)) := Lib.hid (by rw [atFsOp_eq os pN hkx]; exact rdFsOp_below (HGO.out _ (List.getElem_mem hkx)) BBo (Nat.le_refl _))
          have HST : Hid ((os.take (pN + 1)).map datFsOp = (os.take pN).map datFsOp ++ [datFsOp (atFsOp os pN)]) := Lib.hid (by rw [List.take_succ_eq_append_getElem hkx, List.map_append, atFsOp_eq os pN hkx]; rfl)
          clear hcc cb hkx
          generalize atFsOp os pN = x at *
          obtain ⟨ok, onm, odst, xA, xN, xC, xL⟩ := x
          try simp only at k0 k1 k2 k3 hxn
          have hal := (Below.refl wr.heap.size wr).alloc (Nat.le_refl _) (.cells #[.int .i64 ok, .string onm, .string odst, .slice xA xN xC] 27)
          have HE := OutC.mk0 wr (.int .i64 ok) (.string onm) (.string odst) (.slice xA xN xC) 27
          have HOF := Lib.hid (HOo.out.below hal)
          have HFF := Lib.hid (HFo.out.below hal)
          have HCF := Lib.hid (HCo.out.later hal)
          have HXF := Lib.hid (rdFsOp_below HXR.out hal (Nat.le_refl _))
          have hwF : (wr.alloc (.cells #[.int .i64 ok, .string onm, .string odst, .slice xA xN xC] 27)).heap.size = wr.heap.size + 1 := by simp
          have hbF := hbo.trans (hal.mono (by omega))
          clear hal a3
          go_wp2_with fail
          generalize wr.alloc (.cells #[.int .i64 ok, .string onm, .string odst, .slice xA xN xC] 27) = WF at *
          have hbD : Below WF.heap.size WF WF.drew := (Below.refl _ _).drew
          have HXD := Lib.hid (rdFsOp_below HXF.out hbD (Nat.le_refl _))
          have K0 : WF.drew.cell? ⟨w.heap.size + 2, 3, none⟩ = some (.slice pA pN pC) := HCF.out.c3
          have J0 : WF.drew.cell? ⟨wr.heap.size, 0, none⟩ = some (.int .i64 ok) := HE.c0
          have J1 : WF.drew.cell? ⟨wr.heap.size, 1, none⟩ = some (.string onm) := HE.c1
          have J2 : WF.drew.cell? ⟨wr.heap.size, 2, none⟩ = some (.string odst) := HE.c2
          have J3 : WF.drew.cell? ⟨wr.heap.size, 3, none⟩ = some (.slice xA xN xC) := HE.c3
          have hqo : ∀ q, (Value.slice pA pN pC).ownBlock = some q → w.heap.size + 2 < q := fun q hq => by have := (World.ownsRow.lt HOF.out.nest.row.own q hq).1; omega
          go_region_law (first
            | (go_simp; go_at_call 60; refine (copyOp_any ⟨ok, onm, odst, xA, xN, xC, xL⟩ _ HXD.out (by show xN ≤ 100000000; omega)).mono ?_; rintro e w4 ⟨⟨o0, o1, o2, A4, N4, C4, L4⟩, rfl, hdx, hnx, ho4, hb4⟩; have K4 := cell_later hb4 K0; have K5 := cell_later ((Below.refl w4.heap.size w4).alloc (Nat.le_refl _) (.cells #[.int .i64 o0, .string o1, .string o2, .slice A4 N4 C4] 27)) K4)
            | (refine step_append_lies _ (by rfl) _ _ _ (by rfl) V.heap.size 27 i0 _ 4 64 Try.underlying32 hi hz0 hz1 hz2 rfl (by decide) (.slice pA pN pC) pN (ps.flatMap encFsOp) (by rfl) ((HOF.out.below ((hbD.trans hb4).alloc (hbD.trans hb4).size _)).nest.row.own) ⟨w4.heap.size, 0, none⟩ 1 1 [.int .i64 o0, .string o1, .string o2, .slice A4 N4 C4] (by rfl) (by rfl) (news_four w4 _ _ _ _ _) (one_fsOp ⟨o0, o1, o2, A4, N4, C4, []⟩) (by decide) (by unfold maxLen; omega) (by omega) (by have := ((hbD.trans hb4).alloc (hbD.trans hb4).size (.cells #[.int .i64 o0, .string o1, .string o2, .slice A4 N4 C4] 27)).size; omega) _ rfl ?_; rintro g9 C9 w9 ho9 hg9 hor9 hlt9; have HC9 := ((HCF.out.later (hbD.trans hb4)).later ((Below.refl _ _).alloc (Nat.le_refl _) (.cells #[.int .i64 o0, .string o1, .string o2, .slice A4 N4 C4] 27))).grown hg9 hqo; have M9 := HC9.c3; have N9 := HC9.f 3 (by omega)))
          all_goals
            have ⟨HN, HC2, hb9, HF9⟩ := opRound (X := w.heap.size + 2) (x := ⟨o0, o1, o2, A4, N4, C4, L4⟩) HOF.out HCF.out (by omega) hsz2 hb4 ho4 ho9 hg9 (by simpa using hor9) (by omega)
            have HN2 := Lib.hid HN
            have HC3 := Lib.hid HC2
            have HF10 := Lib.hid (HF9 _ HFF.out)
            have hb10 := hbF.trans hb9
            clear HN HC2 hb9 HF9 ho9 hg9 hor9 hb4 ho4 K0 K4 K5 J0 J1 J2 J3 M9 N9 HC9 hlt9
            have HQ2 : Hid (datFsOpS ⟨some ⟨g9, 0, none⟩, pN + 1, C9, ps ++ [⟨o0, o1, o2, A4, N4, C4, L4⟩]⟩ = (os.take (pN + 1)).map datFsOp) := Lib.hid (by
              rw [HST.out, ← HQo.out, ← hdx]
              unfold datFsOpS
              rw [List.map_append]
              rfl)
            clear hdx
            go_wp2
            go_roundw
            case rel => exact ⟨pN + 1, ⟨some ⟨g9, 0, none⟩, pN + 1, C9, ps ++ [⟨o0, o1, o2, A4, N4, C4, L4⟩]⟩, by omega, by go_num, rfl, HN2, HQ2, HC3, HF10, hb10⟩
            case measure => simp [intOf]; omega
        · obtain rfl : pN = oN := by omega
          obtain ⟨c0, c1, c2, c3, _⟩ := HCo.out
          obtain ⟨b0, b1, b2, b3, bf⟩ := HBr.out.below hbo (by omega)
          have p0 := bf 0 (by omega)
          have p1 := bf 1 (by omega)
          have p2 := bf 2 (by omega)
          have p3 := bf 3 (by omega)
          clear bf
          go_wp2
          refine bodyPost_ret (v := .agg #[.int .i64 room, .int .i64 fuse, .slice qA qN qC, .slice pA pN pC]) (by simp [results, Try.results58, go_sem, b0, b1, b2, b3]) rfl ?_
          have hw2 := win_four wr (w.heap.size + 1) (w.heap.size + 1) (w.heap.size + 2) (Nat.le_refl _) (by omega) (.int .i64 room) (.int .i64 fuse) (.slice qA qN qC) (.slice pA pN pC)
          have of3 := HFo.out.win hw2 (Or.inl (by omega))
          have oo3 := HOo.out.win hw2 (Or.inl (by omega))
          refine ⟨⟨room, fuse, qA, qN, qC, qs, pA, pN, pC, ps⟩, rfl, ?_, ⟨⟨V.heap.size, by omega, by simp only [size_set]; exact hsz2, of3.lo_le (by omega), by simp only [size_set]; exact oo3⟩, Nat.le_refl _⟩, BBo.trans (hw2.below (by omega) BBo.size)⟩
          have e1 := HQ.out; have e2 := HQo.out; unfold datDisk; show (room, fuse, datFileS ⟨qA, qN, qC, qs⟩, datFsOpS ⟨pA, pN, pC, ps⟩) = _; rw [e1, e2]; simp only [List.map_take]
end Go.Proofs.Ytoodlmhnemamhaa

/- DiskSet, DiskBend, DiskDo: what they answer, plain. -/
namespace Go.Proofs.Ytoodlmhnemamhaa
open Go.RowKit
theorem preFile_dat (xs : List FileR) (h : ∀ f ∈ xs, f.data.length = f.dataN) : preFile xs xs.length = ((xs.map datFile).map fun f : FD => f.1.size + f.2.length).sum := by
  unfold preFile
  rw [List.take_length, List.map_map]
  congr 1
  apply List.map_congr_left
  intro f hf
  have := h f hf
  show bulkFile f = f.name.size + f.data.length
  unfold bulkFile
  omega
theorem preFsOp_dat (xs : List FsOpR) (h : ∀ f ∈ xs, f.data.length = f.dataN) : preFsOp xs xs.length = ((xs.map datFsOp).map fun f : OD => f.2.1.size + f.2.2.1.size + f.2.2.2.length).sum := by
  unfold preFsOp
  rw [List.take_length, List.map_map]
  congr 1
  apply List.map_congr_left
  intro f hf
  have := h f hf
  show bulkFsOp f = f.name.size + f.dst.size + f.data.length
  unfold bulkFsOp
  omega
/-- How much a disk's data take. -/
def bulkFl (F : List FD) : Nat := F.length + (F.map fun f : FD => f.1.size + f.2.length).sum
def bulkOl (O : List OD) : Nat := O.length + (O.map fun f : OD => f.2.1.size + f.2.2.1.size + f.2.2.2.length).sum
def bulkD (D : DskD) : Nat := bulkFl D.2.2.1 + bulkOl D.2.2.2
theorem bulkDisk_dat {w : World} {y : DiskR} (g : rdDisk w y) : bulkDisk y = bulkD (datDisk y) := by
  obtain ⟨⟨gf, gfi⟩, go, goi⟩ := g
  have e1 := gf.len
  have e2 := go.len
  have e3 := preFile_dat y.files (fun f hf => (gfi f hf).len)
  have e4 := preFsOp_dat y.wait (fun f hf => (goi f hf).len)
  unfold bulkDisk bulkD bulkFl bulkOl bulkFileS bulkFsOpS datDisk datFileS datFsOpS fR oR at *
  simp only [List.length_map] at *
  omega
theorem bulkOl_snoc (O : List OD) (o : OD) : bulkOl (O ++ [o]) = bulkOl O + 1 + (o.2.1.size + o.2.2.1.size + o.2.2.2.length) := by
  unfold bulkOl
  rw [List.map_append, List.sum_append, List.length_append]
  simp only [List.map_cons, List.map_nil, List.sum_cons, List.sum_nil, List.length_cons, List.length_nil]
  omega
theorem filesN_le {y : DiskR} (hn : bulkDisk y ≤ 1048576) : y.filesN ≤ 10000000 := by
  unfold bulkDisk bulkFileS fR at hn
  simp only at hn
  omega
theorem waitN_le {y : DiskR} (hn : bulkDisk y ≤ 1048576) : y.waitN ≤ 10000000 := by
  unfold bulkDisk bulkFsOpS oR at hn
  simp only at hn
  omega
theorem OwnDisk.grow {lo hi hi' : Nat} {w : World} {y : DiskR} (h : OwnDisk lo hi w y) (hl : hi ≤ hi') (ht : hi' ≤ w.heap.size) : OwnDisk lo hi' w y := by
  obtain ⟨⟨m, h1, h2, h3, h4⟩, _⟩ := h
  exact ⟨⟨m, h1, Nat.le_trans h2 hl, h3, h4.grow hl ht⟩, ht⟩
/-! the answers -/
def noD : DskD := (0, 0, [], [])
def okD (D : DskD) : Bool := diskB D.1 D.2.1 D.2.2.1 D.2.2.2
def burnI (f : Int) : Int := if 0 < f then f - 1 else f
def setD (D : DskD) (room fuse : Int) : DskD × Bool := if okD D = true ∧ okD (room, fuse, D.2.2.1, D.2.2.2) = true then ((room, fuse, D.2.2.1, D.2.2.2), true) else (noD, false)
theorem setD_no {D : DskD} {room fuse : Int} (h : ¬ (okD D = true ∧ okD (room, fuse, D.2.2.1, D.2.2.2) = true)) : setD D room fuse = (noD, false) := by
  unfold setD
  rw [if_neg h]
theorem setD_yes {D : DskD} {room fuse : Int} (h : okD D = true) (h2 : okD (room, fuse, D.2.2.1, D.2.2.2) = true) : setD D room fuse = ((room, fuse, D.2.2.1, D.2.2.2), true) := by
  unfold setD
  rw [if_pos ⟨h, h2⟩]
/-- The place of a name, the length where there is none. -/
def placeF (l : List FD) (nm : ByteArray) : Nat := l.findIdx fun f => eqN f.1 nm
def bendV (x mask : Int) : Int := ((x.toNat ^^^ mask.toNat : Nat) : Int)
def bendF (l : List FD) (k p : Nat) (mask : Int) : List FD := l.set k ((atFD l k).1, (atFD l k).2.set p (bendV ((atFD l k).2.getD p 0) mask))
def bendB (D : DskD) (nm : ByteArray) (p mask : Int) : Bool := decide (okD D = true ∧ D.2.2.2.length = 0 ∧ (1 ≤ mask ∧ mask ≤ 255) ∧ placeF D.2.2.1 nm < D.2.2.1.length ∧ 0 ≤ p ∧ p < ((atFD D.2.2.1 (placeF D.2.2.1 nm)).2.length : Int))
def bendD (D : DskD) (nm : ByteArray) (p mask : Int) : DskD × Bool := if bendB D nm p mask = true then ((D.1, D.2.1, bendF D.2.2.1 (placeF D.2.2.1 nm) p.toNat mask, D.2.2.2), true) else (noD, false)
theorem bendD_no {D : DskD} {nm : ByteArray} {p mask : Int} (h : ¬ (okD D = true ∧ D.2.2.2.length = 0 ∧ (1 ≤ mask ∧ mask ≤ 255) ∧ placeF D.2.2.1 nm < D.2.2.1.length ∧ 0 ≤ p ∧ p < ((atFD D.2.2.1 (placeF D.2.2.1 nm)).2.length : Int))) : bendD D nm p mask = (noD, false) := by
  unfold bendD bendB
  rw [if_neg (by rw [decide_eq_false h]; simp)]
theorem bendD_yes {D : DskD} {nm : ByteArray} {p mask : Int} (h : okD D = true ∧ D.2.2.2.length = 0 ∧ (1 ≤ mask ∧ mask ≤ 255) ∧ placeF D.2.2.1 nm < D.2.2.1.length ∧ 0 ≤ p ∧ p < ((atFD D.2.2.1 (placeF D.2.2.1 nm)).2.length : Int)) : bendD D nm p mask = ((D.1, D.2.1, bendF D.2.2.1 (placeF D.2.2.1 nm) p.toNat mask, D.2.2.2), true) := by
  unfold bendD bendB
  rw [if_pos (decide_eq_true h)]
theorem placeF_eq {l : List FD} {nm : ByteArray} {k : Nat} (hk : k < l.length) (he : eqN (atFD l k).1 nm = true) (hb : ∀ j, j < k → eqN (atFD l j).1 nm = false) : placeF l nm = k := by
  unfold placeF
  have at' : ∀ j (h : j < l.length), atFD l j = l[j] := fun j h => by simp [atFD, List.getD, h]
  rw [List.findIdx_eq hk]
  refine ⟨by rw [← at' k hk]; exact he, fun j hj => ?_⟩
  rw [← at' j (by omega)]
  exact hb j hj
theorem placeF_none {l : List FD} {nm : ByteArray} (h : ∀ j, j < l.length → eqN (atFD l j).1 nm = false) : placeF l nm = l.length := by
  unfold placeF
  rw [List.findIdx_eq_length]
  intro x hx
  obtain ⟨j, hj, rfl⟩ := List.getElem_of_mem hx
  have := h j hj
  have e : atFD l j = l[j] := by simp [atFD, List.getD, hj]
  rw [e] at this
  exact this
theorem placeF_at {l : List FD} {nm : ByteArray} (h : placeF l nm < l.length) : eqN (atFD l (placeF l nm)).1 nm = true := by
  have e : atFD l (placeF l nm) = l[placeF l nm] := by simp [atFD, List.getD, h]
  rw [e]
  exact List.findIdx_getElem (p := fun f : FD => eqN f.1 nm) (w := h)
/-- Names that go up: one place at most. -/
theorem placeF_one {l : List FD} {nm : ByteArray} (h : namesB l = true) {k : Nat} (hk : k < l.length) (he : eqN (atFD l k).1 nm = true) : placeF l nm = k := by
  refine placeF_eq hk he (fun j hj => eqN_ne ?_)
  have h1 := names_below h k hk j hj
  rw [eqN_iff.1 he] at h1
  exact ltN_ne h1
def doD (D : DskD) (o : OD) : DskD × Int :=
  if ¬ (okD D = true ∧ opOk o = true) then (noD, 1) else
  if D.2.1 = 0 then (D, 2) else
  if fitsB (seenD D) o = false then (D, 3) else
  if 60 ≤ D.2.2.2.length then (D, 4) else
  if o.1 = 2 ∧ D.1 - (sizeF (seenD D) : Int) < (o.2.2.2.length : Int) then
    (if 0 < D.1 - (sizeF (seenD D) : Int) then (D.1, burnI D.2.1, D.2.2.1, D.2.2.2 ++ [(o.1, o.2.1, o.2.2.1, o.2.2.2.take (D.1 - (sizeF (seenD D) : Int)).toNat)]) else (D.1, burnI D.2.1, D.2.2.1, D.2.2.2), 5)
  else ((D.1, burnI D.2.1, D.2.2.1, D.2.2.2 ++ [o]), 0)
/-- A disk of the call's own beside a truth value, or beside a number. -/
def RetDkB (r : DskD × Bool) (w : World) (en : Ending) (w' : World) : Prop := ∃ y : DiskR, en = .returned (.tuple #[.agg #[.int .i64 y.room, .int .i64 y.fuse, .slice y.filesA y.filesN y.filesC, .slice y.waitA y.waitN y.waitC], .bool r.2]) ∧ datDisk y = r.1 ∧ OwnDisk w.heap.size w'.heap.size w' y ∧ bulkDisk y ≤ 1048576 ∧ Below w.heap.size w w'
def RetDkI (r : DskD × Int) (w : World) (en : Ending) (w' : World) : Prop := ∃ y : DiskR, en = .returned (.tuple #[.agg #[.int .i64 y.room, .int .i64 y.fuse, .slice y.filesA y.filesN y.filesC, .slice y.waitA y.waitN y.waitC], .int .i64 r.2]) ∧ datDisk y = r.1 ∧ OwnDisk w.heap.size w'.heap.size w' y ∧ bulkDisk y ≤ 1048576 ∧ Below w.heap.size w w'
def noR : DiskR := ⟨0, 0, none, 0, 0, [], none, 0, 0, []⟩
theorem own_noR (lo : Nat) (w : World) (h : lo ≤ w.heap.size) : OwnDisk lo w.heap.size w noR :=
  ⟨⟨w.heap.size, h, Nat.le_refl _, OwnFileS.nil _ _, OwnFsOpS.nil _ _⟩, Nat.le_refl _⟩
theorem noR_bulk : bulkDisk noR ≤ 1048576 := by decide
theorem RetDkB.no {w w' : World} (hb : Below w.heap.size w w') : RetDkB (noD, false) w (.returned (.tuple #[.agg #[.int .i64 0, .int .i64 0, .slice Option.none 0 0, .slice Option.none 0 0], .bool false])) w' :=
  ⟨noR, rfl, rfl, own_noR _ _ hb.size, noR_bulk, hb⟩
theorem RetDkI.no {w w' : World} (hb : Below w.heap.size w w') : RetDkI (noD, 1) w (.returned (.tuple #[.agg #[.int .i64 0, .int .i64 0, .slice Option.none 0 0, .slice Option.none 0 0], .int .i64 1])) w' :=
  ⟨noR, rfl, rfl, own_noR _ _ hb.size, noR_bulk, hb⟩
end Go.Proofs.Ytoodlmhnemamhaa

/- DiskBend of the reference. -/
namespace Go.Proofs.Ytoodlmhnemamhaa
open Go.RowKit
/-- The first place of a name. -/
def AtFst (xs : List FileR) (nm : ByteArray) (r : Int) : Prop := (r = -1 ∧ ∀ j, j < xs.length → eqN (atFile xs j).name nm = false) ∨ ∃ k : Nat, r = (k : Int) ∧ k < xs.length ∧ eqN (atFile xs k).name nm = true ∧ ∀ j, j < k → eqN (atFile xs j).name nm = false
def RetFst (xs : List FileR) (nm : ByteArray) (w : World) (en : Ending) (w' : World) : Prop := ∃ r : Int, en = .returned (.int .i64 r) ∧ AtFst xs nm r ∧ Below w.heap.size w w'
set_option maxHeartbeats 1600000 in
theorem l02At_first (y : Row FileR) (nm : ByteArray) (w : World) (g : rdFileS w y) :
    Calls Try.prog 55 #[.slice y.a y.n y.c, .string nm] w fun e w' => RetFst y.l nm w e w' := by
  obtain ⟨a, n, c, xs⟩ := y
  obtain ⟨gr, gi⟩ := g
  simp only at gr gi ⊢
  have hm := gr.max
  have hle := gr.le
  have HL := Lib.hid gr.len
  unfold maxLen at hm
  clear gi
  go_enter Try.func55, Try.ntmps55
  go_wp2
  go_loopw [9] (fun i wr => ∃ k : Nat, k ≤ n ∧ i = .int .i64 k ∧ Hid (∀ j, j < k → eqN (atFile xs j).name nm = false) ∧ Below w.heap.size w wr) (fun i _ => n - (intOf i).toNat)
  case atStart => exact ⟨0, Nat.zero_le _, rfl, Lib.hid (fun j hj => absurd hj (Nat.not_lt_zero j)), Below.refl _ _⟩
  case round =>
    obtain ⟨k, hk, rfl, HE, hb⟩ := hrel
    by_cases hlt : k < n
    · obtain ⟨b, off, rfl, hbl, hc⟩ := gr.rowFile (by omega)
      obtain ⟨k0, k1⟩ := hc k hlt
      have cb : ∀ o, wr.cell? ⟨b, o, none⟩ = w.cell? ⟨b, o, none⟩ := fun o => hb.cell (p := ⟨b, o, none⟩) hbl
      rw [← cb] at k0 k1
      have hi1 : (k : Int) < (n : Int) := by omega
      have ha := hb.trans (((Below.refl wr.heap.size wr).alloc (Nat.le_refl _) (.cells #[.string (atFile xs k).name, .slice (atFile xs k).dataA (atFile xs k).dataN (atFile xs k).dataC] 71)).mono hb.size)
      have hse := toList_eqN (atFile xs k).name nm
      have HQ : Hid (eqN (atFile xs k).name nm = true → AtFst xs nm (k : Int)) := Lib.hid (fun h => Or.inr ⟨k, rfl, by rw [HL.out]; exact hlt, h, HE.out⟩)
      have HW : Hid (eqN (atFile xs k).name nm = false → ∀ j, j < k + 1 → eqN (atFile xs j).name nm = false) := Lib.hid (fun h j hj => by
        by_cases e : j = k
        · rw [e]; exact h
        · exact HE.out j (by omega))
      clear hc cb HE
      generalize atFile xs k = x at *
      obtain ⟨nm2, xA, xN, xC, xL⟩ := x
      try simp only at k0 k1 ha hse HQ HW
      cases hq : eqN nm2 nm with
      | true =>
        rw [hq] at hse
        have HX := Lib.hid (HQ.out hq)
        clear hq HW HQ
        go_wp2
        go_ret
        exact ⟨_, rfl, HX.out, ha⟩
      | false =>
        rw [hq] at hse
        have HX := Lib.hid (HW.out hq)
        clear hq HW HQ
        go_wp2
        go_roundw
        case rel => exact ⟨k + 1, by omega, by go_num, HX, ha⟩
        case measure => simp [intOf]; omega
    · obtain rfl : k = n := by omega
      have HX : Hid (AtFst xs nm (-1)) := Lib.hid (Or.inl ⟨rfl, fun j hj => HE.out j (by rw [HL.out] at hj; exact hj)⟩)
      clear HE
      go_wp2
      go_ret
      exact ⟨_, rfl, HX.out, hb⟩
end Go.Proofs.Ytoodlmhnemamhaa

/- One byte of one file of a disk of the call's own is written. -/
namespace Go.Proofs.Ytoodlmhnemamhaa
open Go.RowKit
def pokeR (x : FileR) (p : Nat) (v : Int) : FileR := ⟨x.name, x.dataA, x.dataN, x.dataC, x.data.set p v⟩
theorem OwnFileS.poke {lo hi : Nat} {w : World} {b n c : Nat} {xs : List FileR} (h : OwnFileS lo hi w ⟨some ⟨b, 0, none⟩, n, c, xs⟩) (k : Nat) (hk : k < xs.length) (g : Nat) (hg : (atFile xs k).dataA = some ⟨g, 0, none⟩) (p : Nat) (v : Int) :
    OwnFileS lo hi (w.setCell ⟨g, p, none⟩ (.int .u8 v)) ⟨some ⟨b, 0, none⟩, n, c, xs.set k (pokeR (atFile xs k) p v)⟩ ∧ Win lo hi w (w.setCell ⟨g, p, none⟩ (.int .u8 v)) := by
  rw [atFile_eq xs k hk] at hg ⊢
  have h3 : OwnS (encI .u8) 1 5 lo hi w xs[k].dataA xs[k].dataN xs[k].dataC xs[k].data := h.nest.inner k hk
  have hgl : g < hi := h3.lt g (by rw [hg]; rfl)
  have ht := h3.top
  have h5 := h3.own
  rw [hg] at h5
  have h6 := (h5.stored p (.int .u8 v)).1
  rw [flat_encI, ← List.map_set, ← flat_encI] at h6
  have ho : OwnS (encI .u8) 1 5 g (g + 1) (w.setCell ⟨g, p, none⟩ (.int .u8 v)) xs[k].dataA xs[k].dataN xs[k].dataC (xs[k].data.set p v) :=
    ⟨by rw [List.length_set]; exact h3.len, by rw [hg]; exact own_rebase h6 (fun q hq => by cases hq; exact Nat.le_refl _), fun q hq => by rw [hg] at hq; cases hq; exact Nat.lt_succ_self _, by rw [size_set]; omega, h3.small⟩
  obtain ⟨r, hw⟩ := h.nest.mid (l := g) (u := g + 1) k hk (fun q h1 h2 => by
    have e : q = g := by omega
    subst e
    show (Value.slice xs[k].dataA xs[k].dataN xs[k].dataC).ownBlock = some q
    rw [hg]; rfl) ho (Win.set w g p (.int .u8 v) (Nat.le_refl _) (Nat.lt_succ_self _)) (pokeR xs[k] p v) rfl rfl
  exact ⟨⟨r⟩, hw⟩
def pokeD (y : DiskR) (k p : Nat) (v : Int) : DiskR := ⟨y.room, y.fuse, y.filesA, y.filesN, y.filesC, y.files.set k (pokeR (atFile y.files k) p v), y.waitA, y.waitN, y.waitC, y.wait⟩
theorem OwnDisk.poke {lo hi : Nat} {w : World} {y : DiskR} (h : OwnDisk lo hi w y) {b : Nat} (hb : y.filesA = some ⟨b, 0, none⟩) (k : Nat) (hk : k < y.files.length) (g : Nat) (hg : (atFile y.files k).dataA = some ⟨g, 0, none⟩) (p : Nat) (v : Int) :
    OwnDisk lo hi (w.setCell ⟨g, p, none⟩ (.int .u8 v)) (pokeD y k p v) ∧ Win lo hi w (w.setCell ⟨g, p, none⟩ (.int .u8 v)) := by
  obtain ⟨⟨m, h1, h2, h3, h4⟩, ht⟩ := h
  have h5 : OwnFileS lo m w ⟨some ⟨b, 0, none⟩, y.filesN, y.filesC, y.files⟩ := by rw [← hb]; exact h3
  obtain ⟨h6, hw⟩ := h5.poke k hk g hg p v
  rw [← hb] at h6
  exact ⟨⟨⟨m, h1, h2, h6, h4.win hw (Or.inl (Nat.le_refl _))⟩, by rw [size_set]; exact ht⟩, hw.mono (Nat.le_refl _) h2⟩
theorem bulk_poke (y : DiskR) (k p : Nat) (v : Int) (hk : k < y.files.length) : bulkDisk (pokeD y k p v) = bulkDisk y := by
  have e : (y.files.set k (pokeR (atFile y.files k) p v)).map bulkFile = y.files.map bulkFile := by
    rw [List.map_set]
    have : bulkFile (pokeR (atFile y.files k) p v) = (y.files.map bulkFile)[k]'(by rw [List.length_map]; exact hk) := by rw [List.getElem_map, atFile_eq _ _ hk]; rfl
    rw [this, List.set_getElem_self]
  unfold bulkDisk bulkFileS preFile pokeD fR oR
  simp only [List.take_length, e]
theorem dat_poke {y y2 : DiskR} (hd : datDisk y2 = datDisk y) (k p : Nat) (mask : Int) (hk : k < y2.files.length) :
    datDisk (pokeD y2 k p (bendV ((atFile y2.files k).data.getD p 0) mask)) = ((datDisk y).1, (datDisk y).2.1, bendF (datDisk y).2.2.1 k p mask, (datDisk y).2.2.2) := by
  have e : (y2.files.set k (pokeR (atFile y2.files k) p (bendV ((atFile y2.files k).data.getD p 0) mask))).map datFile = bendF (y2.files.map datFile) k p mask := by
    rw [List.map_set]
    unfold bendF
    rw [atFD_dat _ _ hk]
    rfl
  rw [← hd]
  show (y2.room, y2.fuse, (y2.files.set k (pokeR (atFile y2.files k) p (bendV ((atFile y2.files k).data.getD p 0) mask))).map datFile, datFsOpS (oR y2)) = _
  rw [e]
  rfl
theorem bendV_lt {x mask : Int} (h1 : 0 ≤ x) (h2 : x ≤ 255) (h3 : 0 ≤ mask) (h4 : mask ≤ 255) : 0 ≤ bendV x mask ∧ bendV x mask ≤ 255 := by
  unfold bendV
  have := Nat.xor_lt_two_pow (x := x.toNat) (y := mask.toNat) (n := 8) (by omega) (by omega)
  omega
theorem i64_xor_nat (a b : Nat) (ha : a < 4611686018427387904) (hb : b < 4611686018427387904) : bits .xor .i64 (a : Int) (b : Int) = ((a ^^^ b : Nat) : Int) := by
  have hx : a ^^^ b < 2 ^ 62 := Nat.xor_lt_two_pow (by omega) (by omega)
  show IntKind.i64.wrap ((BitVec.ofInt 64 (a : Int) ^^^ BitVec.ofInt 64 (b : Int)).toNat : Int) = _
  rw [BitVec.toNat_xor, ofInt_u64 a (by omega), ofInt_u64 b (by omega)]
  exact IntWalk.i64_in _ (by omega)
theorem i64_bend {x mask : Int} (h1 : 0 ≤ x) (h2 : x ≤ 255) (h3 : 0 ≤ mask) (h4 : mask ≤ 255) : bits .xor .i64 x mask = bendV x mask := by
  obtain ⟨X, rfl⟩ := Int.eq_ofNat_of_zero_le h1
  obtain ⟨M, rfl⟩ := Int.eq_ofNat_of_zero_le h3
  have := i64_xor_nat X M (by omega) (by omega)
  rw [this]
  rfl
theorem u8_bend {x mask : Int} (h1 : 0 ≤ x) (h2 : x ≤ 255) (h3 : 0 ≤ mask) (h4 : mask ≤ 255) : bits .xor .u8 x mask = bendV x mask := u8_xor x mask h1 (by omega) h3 (by omega)
theorem OwnDisk.full {lo hi : Nat} {w : World} {y : DiskR} (h : OwnDisk lo hi w y) : OwnDisk lo w.heap.size w y := h.grow h.top (Nat.le_refl _)
/-- Where one byte of one file lies. -/
theorem OwnDisk.spot {lo hi : Nat} {w : World} {y : DiskR} (h : OwnDisk lo hi w y) {k : Nat} (hk : k < y.files.length) {P : Nat} (hP : P < (atFile y.files k).data.length) :
    ∃ b g, y.filesA = some ⟨b, 0, none⟩ ∧ (atFile y.files k).dataA = some ⟨g, 0, none⟩ ∧ lo ≤ g ∧ g < hi ∧ k < y.filesN ∧ y.filesN ≤ 9223372036854775807 ∧ (atFile y.files k).dataN = (atFile y.files k).data.length ∧ (atFile y.files k).dataN ≤ 9223372036854775807 ∧
      w.cell? ⟨b, k * 2, none⟩ = some (.string (atFile y.files k).name) ∧ w.cell? ⟨b, k * 2 + 1, none⟩ = some (.slice (some ⟨g, 0, none⟩) (atFile y.files k).dataN (atFile y.files k).dataC) ∧ w.cell? ⟨g, P, none⟩ = some (.int .u8 ((atFile y.files k).data.getD P 0)) ∧ w.frozen? ⟨g, P, none⟩ = false := by
  obtain ⟨⟨m, h1, h2, h3, h4⟩, ht⟩ := h
  have hl : y.files.length = y.filesN := h3.nest.row.len
  have hkf : k < y.filesN := by omega
  obtain ⟨b, hb⟩ := own_some h3.nest.row.own (show 0 < y.filesN by omega)
  obtain ⟨b2, off, e1, _, hc⟩ := h3.rd.1.rowFile (show 0 < y.filesN by omega)
  have e2 : (⟨b, 0, none⟩ : Addr) = ⟨b2, off, none⟩ := by
    have e3 : y.filesA = some ⟨b, 0, none⟩ := hb
    have e4 : y.filesA = some ⟨b2, off, none⟩ := e1
    rw [e3] at e4
    exact Option.some.inj e4
  cases e2
  have k0 : w.cell? ⟨b, 0 + k * 2, none⟩ = some (.string (atFile y.files k).name) := (hc k hkf).1
  have k1 : w.cell? ⟨b, 0 + k * 2 + 1, none⟩ = some (.slice (atFile y.files k).dataA (atFile y.files k).dataN (atFile y.files k).dataC) := (hc k hkf).2
  have h5 : OwnS (encI .u8) 1 5 lo m w (atFile y.files k).dataA (atFile y.files k).dataN (atFile y.files k).dataC (atFile y.files k).data := by
    rw [atFile_eq _ _ hk]
    exact h3.nest.inner k hk
  generalize atFile y.files k = x at *
  obtain ⟨xm, xA, xN, xC, xL⟩ := x
  simp only at k0 k1 h5 hP ⊢
  have e5 := h5.len
  obtain ⟨g, hg⟩ := own_some h5.own (show 0 < xN by omega)
  subst hg
  have h6 := h5.lt g rfl
  have h7 := (World.ownsRow.lt h5.own g rfl).1
  obtain ⟨b3, off3, e6, _, hc3⟩ := (h5.rd (show ∀ x, (encI .u8 x).length = 1 from fun _ => rfl)).ints (show 0 < xN by omega)
  cases e6
  have h8 := hc3 P (by omega)
  rw [Nat.zero_add] at h8 k0 k1
  have m1 := h3.rd.1.le
  have m2 := h3.rd.1.max
  have m3 := (h5.rd (show ∀ x, (encI .u8 x).length = 1 from fun _ => rfl)).le
  have m4 := (h5.rd (show ∀ x, (encI .u8 x).length = 1 from fun _ => rfl)).max
  unfold maxLen at m2 m4
  have m5 : y.filesN ≤ 9223372036854775807 := by
    have q1 : (fR y).n ≤ (fR y).c := m1
    have q2 : (fR y).n = y.filesN := rfl
    omega
  exact ⟨b, g, hb, rfl, h7, by omega, hkf, m5, by omega, by omega, k0, k1, h8, h5.own.frozenAt P⟩
theorem RetDkB.bent {w w' : World} {y y2 : DiskR} {nm : ByteArray} {P k : Nat} {mask : Int} (hX : bendD (datDisk y) nm (P : Int) mask = (((datDisk y).1, (datDisk y).2.1, bendF (datDisk y).2.2.1 k P mask, (datDisk y).2.2.2), true)) (hd : datDisk y2 = datDisk y) (hk : k < y2.files.length)
    (ho : OwnDisk w.heap.size w'.heap.size w' (pokeD y2 k P (bendV ((atFile y2.files k).data.getD P 0) mask))) (hn : bulkDisk y2 ≤ 1048576) (hb : Below w.heap.size w w') :
    RetDkB (bendD (datDisk y) nm (P : Int) mask) w (.returned (.tuple #[.agg #[.int .i64 y2.room, .int .i64 y2.fuse, .slice y2.filesA y2.filesN y2.filesC, .slice y2.waitA y2.waitN y2.waitC], .bool true])) w' := by
  rw [hX]
  exact ⟨pokeD y2 k P (bendV ((atFile y2.files k).data.getD P 0) mask), rfl, dat_poke hd k P mask hk, ho, by rw [bulk_poke _ _ _ _ hk]; exact hn, hb⟩
end Go.Proofs.Ytoodlmhnemamhaa

/- DiskBend of the reference. -/
namespace Go.Proofs.Ytoodlmhnemamhaa
open Go.RowKit
set_option maxRecDepth 100000 in
set_option maxHeartbeats 12800000 in
theorem diskBend_spec_k (y : DiskR) (D : DskD) (hD : datDisk y = D) (nm : ByteArray) (_hnm : nm.size ≤ maxLen) (p mask : Int) (w : World) (g : goodDisk w y) (hn : bulkDisk y ≤ 1048576) (g2 : In64 p) (g3 : In64 mask) :
    Calls Try.prog 31 #[.agg #[.int .i64 y.room, .int .i64 y.fuse, .slice y.filesA y.filesN y.filesC, .slice y.waitA y.waitN y.waitC], .string nm, .int .i64 p, .int .i64 mask] w fun e w' => RetDkB (bendD D nm p mask) w e w' := by
  subst hD
  have hb0 := ((Below.refl w.heap.size w).alloc (Nat.le_refl _) (.cells #[.int .i64 y.room, .int .i64 y.fuse, .slice y.filesA y.filesN y.filesC, .slice y.waitA y.waitN y.waitC] 34)).alloc (by simp) (.cells #[.int .i64 0, .int .i64 0, .slice none 0 0, .slice none 0 0] 34)
  have HA0 := OutC.mk0 w (.int .i64 y.room) (.int .i64 y.fuse) (.slice y.filesA y.filesN y.filesC) (.slice y.waitA y.waitN y.waitC) 34
  have HB0 := OutC.mk0 (w.alloc (.cells #[.int .i64 y.room, .int .i64 y.fuse, .slice y.filesA y.filesN y.filesC, .slice y.waitA y.waitN y.waitC] 34)) (.int .i64 0) (.int .i64 0) (.slice none 0 0) (.slice none 0 0) 34
  rw [show (w.alloc (.cells #[.int .i64 y.room, .int .i64 y.fuse, .slice y.filesA y.filesN y.filesC, .slice y.waitA y.waitN y.waitC] 34)).heap.size = w.heap.size + 1 from by simp] at HB0
  have HA := Lib.hid (HA0.later ((Below.refl _ _).alloc (Nat.le_refl _) (.cells #[.int .i64 0, .int .i64 0, .slice none 0 0, .slice none 0 0] 34)))
  have HB := Lib.hid HB0
  have HG := Lib.hid (show goodDisk _ y from good_of_rd (rdDisk_below (goodDisk_rd g) hb0 (Nat.le_refl _)) (goodDisk_ok g))
  have HOK := Lib.hid (goodDisk_ok g)
  have HBU := Lib.hid (bulkDisk_dat (goodDisk_rd g))
  have HFL : Hid (y.files.length = y.filesN) := Lib.hid g.2.2.1.1.len
  have HWL : Hid (y.wait.length = y.waitN) := Lib.hid g.2.2.2.1.len
  have HLF : Hid ((datDisk y).2.2.1.length = y.filesN) := Lib.hid (by show (y.files.map datFile).length = _; rw [List.length_map, HFL.out])
  have HLW : Hid ((datDisk y).2.2.2.length = y.waitN) := Lib.hid (by show (y.wait.map datFsOp).length = _; rw [List.length_map, HWL.out])
  have n1 := filesN_le hn
  have n2 := waitN_le hn
  have hz0 : w.heap.size + 2 = ((w.alloc (.cells #[.int .i64 y.room, .int .i64 y.fuse, .slice y.filesA y.filesN y.filesC, .slice y.waitA y.waitN y.waitC] 34)).alloc (.cells #[.int .i64 0, .int .i64 0, .slice none 0 0, .slice none 0 0] 34)).heap.size := by simp
  unfold In64 at g2 g3
  clear HA0 HB0 g
  go_enter Try.func31, Try.ntmps31
  go_wp2_with fail
  generalize (w.alloc (.cells #[.int .i64 y.room, .int .i64 y.fuse, .slice y.filesA y.filesN y.filesC, .slice y.waitA y.waitN y.waitC] 34)).alloc (.cells #[.int .i64 0, .int .i64 0, .slice none 0 0, .slice none 0 0] 34) = W0 at *
  refine (l02At_first (fR y) nm _ (goodDisk_rd HG.out).1).mono ?_
  rintro e w1 ⟨r, rfl, hr, hb1⟩
  have HR : Hid (AtFst y.files nm r) := Lib.hid hr
  have BB1 := hb0.trans (hb1.mono hb0.size)
  have HA1 := Lib.hid (HA.out.later hb1)
  have HB1 := Lib.hid (HB.out.later hb1)
  have HG1 := Lib.hid (goodDisk_below HG.out hb1 (Nat.le_refl _))
  have hr64 : -1 ≤ r ∧ r < 1152921504606846976 := by
    rcases hr with ⟨e, _⟩ | ⟨k, e, hk, _⟩
    · omega
    · have hk2 : k < y.files.length := hk
      rw [HFL.out] at hk2
      omega
  obtain ⟨hr1, hr2⟩ := hr64
  obtain ⟨a0, a1, a2, a3, _⟩ := HA1.out
  clear hr HA HB
  go_wp2_with fail
  clear a0 a1 a2 a3
  refine (diskOk_spec_k y _ rfl _ HG1.out hn).mono ?_
  rintro e w2 ⟨rfl, hb2⟩
  have BB2 := BB1.trans (hb2.mono BB1.size)
  have HA2 := Lib.hid (HA1.out.later hb2)
  have HB2 := Lib.hid (HB1.out.later hb2)
  have HG2 := Lib.hid (goodDisk_below HG1.out hb2 (Nat.le_refl _))
  clear HA1 HB1 HG1 HG
  cases hq : diskB (datDisk y).1 (datDisk y).2.1 (datDisk y).2.2.1 (datDisk y).2.2.2 with
  | false =>
    have HX : Hid (bendD (datDisk y) nm p mask = (noD, false)) := Lib.hid (bendD_no (by rw [show okD (datDisk y) = false from hq]; simp))
    clear hq
    obtain ⟨b0, b1, b2, b3, bf⟩ := HB2.out
    have p0 := bf 0 (by omega)
    have p1 := bf 1 (by omega)
    have p2 := bf 2 (by omega)
    have p3 := bf 3 (by omega)
    clear bf
    go_wp2
    refine bodyPost_ret (v := .tuple #[.agg #[.int .i64 0, .int .i64 0, .slice none 0 0, .slice none 0 0], .bool false]) (by simp [results, Try.results31, go_sem, b0, b1, b2, b3]) rfl ?_
    rw [HX.out]
    exact RetDkB.no (BB2.trans ((win_four w2 (w.heap.size + 1) (w.heap.size + 1) (w.heap.size + 2) (Nat.le_refl _) (by omega) (.int .i64 0) (.int .i64 0) (.slice none 0 0) (.slice none 0 0)).below (by omega) BB2.size))
  | true =>
    have HQ : Hid (okD (datDisk y) = true) := Lib.hid hq
    clear hq
    obtain ⟨a0, a1, a2, a3, _⟩ := HA2.out
    have HNP : Hid (r < 0 → placeF (datDisk y).2.2.1 nm = (datDisk y).2.2.1.length) := Lib.hid (fun h => by
      rcases HR.out with ⟨_, h2⟩ | ⟨k, e, _⟩
      · refine placeF_none (fun j hj => ?_)
        rw [HLF.out, ← HFL.out] at hj
        show eqN (atFD (y.files.map datFile) j).1 nm = false
        rw [atFD_dat _ _ hj]
        exact h2 j hj
      · omega)
    have hcases : (0 : Int) < (y.waitN : Int) ∨ ((y.waitN : Int) ≤ 0 ∧ r < 0) ∨ ((y.waitN : Int) ≤ 0 ∧ 0 ≤ r ∧ p < 0) ∨ ((y.waitN : Int) ≤ 0 ∧ 0 ≤ r ∧ 0 ≤ p ∧ mask < 1) ∨ ((y.waitN : Int) ≤ 0 ∧ 0 ≤ r ∧ 0 ≤ p ∧ 1 ≤ mask ∧ 255 < mask) ∨ ((y.waitN : Int) ≤ 0 ∧ 0 ≤ r ∧ 0 ≤ p ∧ 1 ≤ mask ∧ mask ≤ 255) := by omega
    by_cases hall : (y.waitN : Int) ≤ 0 ∧ 0 ≤ r ∧ 0 ≤ p ∧ 1 ≤ mask ∧ mask ≤ 255
    case neg =>
      have HX : Hid (bendD (datDisk y) nm p mask = (noD, false)) := Lib.hid (bendD_no (fun h => hall (by
        obtain ⟨_, h2, h3, h4, h5, _⟩ := h
        rw [HLW.out] at h2
        refine ⟨by omega, ?_, h5, h3.1, h3.2⟩
        by_cases hr0 : r < 0
        · have := HNP.out hr0; omega
        · omega)))
      have hcases2 : (0 : Int) < (y.waitN : Int) ∨ ((y.waitN : Int) ≤ 0 ∧ r < 0) ∨ ((y.waitN : Int) ≤ 0 ∧ 0 ≤ r ∧ p < 0) ∨ ((y.waitN : Int) ≤ 0 ∧ 0 ≤ r ∧ 0 ≤ p ∧ mask < 1) ∨ ((y.waitN : Int) ≤ 0 ∧ 0 ≤ r ∧ 0 ≤ p ∧ 1 ≤ mask ∧ 255 < mask) := by omega
      clear hall hcases hr1 hr2 g2 g3
      rcases hcases2 with h | ⟨h, h2⟩ | ⟨h, h2, h3⟩ | ⟨h, h2, h3, h4⟩ | ⟨h, h2, h3, h4, h5⟩
      all_goals
        obtain ⟨b0, b1, b2, b3, bf⟩ := HB2.out
        have p0 := bf 0 (by omega)
        have p1 := bf 1 (by omega)
        have p2 := bf 2 (by omega)
        have p3 := bf 3 (by omega)
        clear bf
        go_wp2
        refine bodyPost_ret (v := .tuple #[.agg #[.int .i64 0, .int .i64 0, .slice none 0 0, .slice none 0 0], .bool false]) (by simp [results, Try.results31, go_sem, b0, b1, b2, b3]) rfl ?_
        rw [HX.out]
        exact RetDkB.no (BB2.trans ((win_four w2 (w.heap.size + 1) (w.heap.size + 1) (w.heap.size + 2) (Nat.le_refl _) (by omega) (.int .i64 0) (.int .i64 0) (.slice none 0 0) (.slice none 0 0)).below (by omega) BB2.size))
    clear hcases
    have HWN : Hid (y.waitN = 0) := Lib.hid (by omega)
    obtain ⟨hw0, hr0, hp0, hm1, hm2⟩ := hall
    obtain ⟨k, hk, hkn, hke, hkb⟩ : ∃ k : Nat, r = (k : Int) ∧ k < y.files.length ∧ eqN (atFile y.files k).name nm = true ∧ ∀ j, j < k → eqN (atFile y.files j).name nm = false := by
      rcases HR.out with ⟨e, _⟩ | h
      · omega
      · exact h
    subst hk
    obtain ⟨P, hP⟩ := Int.eq_ofNat_of_zero_le hp0
    subst hP
    have HPL : Hid (placeF (datDisk y).2.2.1 nm = k) := Lib.hid (by
      refine placeF_eq (by rw [HLF.out, ← HFL.out]; exact hkn) ?_ (fun j hj => ?_)
      · show eqN (atFD (y.files.map datFile) k).1 nm = true
        rw [atFD_dat _ _ hkn]; exact hke
      · show eqN (atFD (y.files.map datFile) j).1 nm = false
        rw [atFD_dat _ _ (by omega)]; exact hkb j hj)
    have HKN := Lib.hid hkn
    have HKL : Hid ((atFD (datDisk y).2.2.1 k).2.length = (atFile y.files k).dataN) := Lib.hid (by
      show (atFD (y.files.map datFile) k).2.length = _
      rw [atFD_dat _ _ hkn, atFile_eq _ _ hkn]
      exact (HG2.out.2.2.1.2 _ (List.getElem_mem hkn)).2.1.len)
    clear hke hkb HNP HR
    have hkf : k < y.filesN := by rw [← HFL.out]; exact hkn
    have hki : (k : Int) < (y.filesN : Int) := by omega
    obtain ⟨b, off, hfa, hbl, hcell⟩ := HG2.out.2.2.1.1.rowFile (by omega)
    obtain ⟨k0, k1⟩ := hcell k hkf
    have hdl : (atFile y.files k).dataN ≤ 9223372036854775807 := by
      rw [atFile_eq _ _ hkn]
      have h5 := (HG2.out.2.2.1.2 _ (List.getElem_mem hkn)).2.1
      have h6 := h5.le
      have h7 := h5.max
      unfold maxLen at h7
      omega
    rw [hfa] at a2
    have HFA := Lib.hid hfa
    clear hcell hkn hfa hr0 hr1 hr2
    obtain ⟨x, hx⟩ : ∃ x, x = atFile y.files k := ⟨_, rfl⟩
    rw [← hx] at k0 k1 hdl HKL
    have HXE := Lib.hid hx
    clear hx
    obtain ⟨xm, xA, xN, xC, xL⟩ := x
    simp only at k0 k1 hdl HKL
    by_cases hin : (P : Int) < (xN : Int)
    case neg =>
      have HX : Hid (bendD (datDisk y) nm (P : Int) mask = (noD, false)) := Lib.hid (bendD_no (fun h => hin (by
        obtain ⟨_, _, _, _, _, h6⟩ := h
        rw [HPL.out, HKL.out] at h6
        exact h6)))
      have hin2 : (xN : Int) ≤ (P : Int) := by omega
      clear hin
      obtain ⟨b0, b1, b2, b3, bf⟩ := HB2.out
      have p0 := bf 0 (by omega)
      have p1 := bf 1 (by omega)
      have p2 := bf 2 (by omega)
      have p3 := bf 3 (by omega)
      clear bf
      go_wp2
      refine bodyPost_ret (v := .tuple #[.agg #[.int .i64 0, .int .i64 0, .slice none 0 0, .slice none 0 0], .bool false]) (by simp [results, Try.results31, go_sem, b0, b1, b2, b3]) rfl ?_
      rw [HX.out]
      exact RetDkB.no (BB2.trans ((win_four w2 (w.heap.size + 1) (w.heap.size + 1) (w.heap.size + 2) (Nat.le_refl _) (by omega) (.int .i64 0) (.int .i64 0) (.slice none 0 0) (.slice none 0 0)).below (by omega) BB2.size))
    have HX : Hid (bendD (datDisk y) nm (P : Int) mask = (((datDisk y).1, (datDisk y).2.1, bendF (datDisk y).2.2.1 k P mask, (datDisk y).2.2.2), true)) := Lib.hid (by
      rw [bendD_yes ⟨HQ.out, by rw [HLW.out]; omega, ⟨hm1, hm2⟩, by rw [HPL.out, HLF.out]; omega, hp0, by rw [HPL.out, HKL.out]; exact hin⟩, HPL.out]
      rfl)
    go_wp2_with fail
    have hcp := l02Copy_any y w2 (goodDisk_rd HG2.out) hn n1 n2
    rw [HFA.out, HWN.out] at hcp
    refine hcp.mono ?_
    rintro e w3 ⟨y2, rfl, hd, ho, hb3⟩
    clear hcp k0 k1 a0 a1 a2 a3
    have HD2 := Lib.hid hd
    have BB3 := BB2.trans (hb3.mono BB2.size)
    have HB3 := Lib.hid (HB2.out.later hb3)
    have hal := (Below.refl w3.heap.size w3).alloc (Nat.le_refl _) (.cells #[.int .i64 y2.room, .int .i64 y2.fuse, .slice y2.filesA y2.filesN y2.filesC, .slice y2.waitA y2.waitN y2.waitC] 34)
    have HC := Lib.hid (OutC.mk0 w3 (.int .i64 y2.room) (.int .i64 y2.fuse) (.slice y2.filesA y2.filesN y2.filesC) (.slice y2.waitA y2.waitN y2.waitC) 34)
    have HB4 := Lib.hid (HB3.out.later hal)
    have HO := Lib.hid (ho.below hal)
    have BB4 := BB3.trans (hal.mono BB3.size)
    have hk2 : k < y2.files.length := by
      have e2 := congrArg (fun D : DskD => D.2.2.1.length) hd
      have e3 : (y2.files.map datFile).length = (y.files.map datFile).length := e2
      rw [List.length_map, List.length_map] at e3
      have := HKN.out
      omega
    have hdx : datFile (atFile y2.files k) = (xm, xL) := by
      have e2 := congrArg (fun D : DskD => atFD D.2.2.1 k) hd
      have e3 : atFD (y2.files.map datFile) k = atFD (y.files.map datFile) k := e2
      rw [atFD_dat _ _ hk2, atFD_dat _ _ HKN.out, ← HXE.out] at e3
      exact e3
    have hxl : xL.length = xN := by
      have h5 := (HG2.out.2.2.1.2 _ (List.getElem_mem HKN.out)).2.1.len
      have h6 := HXE.out
      rw [atFile_eq _ _ HKN.out] at h6
      rw [← h6] at h5
      exact h5
    have hdd : (atFile y2.files k).data = xL := congrArg Prod.snd hdx
    have HBY : Hid (bulkDisk y2 ≤ 1048576) := Lib.hid (by rw [bulkDisk_dat ho.rd, hd, ← HBU.out]; exact hn)
    have hok := okDisk_dat HOK.out hd
    obtain ⟨b2', gb, hfa2, hga, hgl, hgh, hk3, hfn, hdn, hdn2, z0, z1, z2, z3⟩ := HO.out.spot hk2 (P := P) (by rw [hdd]; omega)
    have hv8 : In8 ((atFile y2.files k).data.getD P 0) := by
      have h5 := (hok.2.2.1 (atFile y2.files k) (by rw [atFile_eq _ _ hk2]; exact List.getElem_mem hk2)).2
      have hPl : P < (atFile y2.files k).data.length := by rw [hdd]; omega
      rw [List.getD_eq_getElem?_getD, List.getElem?_eq_getElem hPl]
      exact h5 _ (List.getElem_mem hPl)
    have hPk : (P : Int) < ((atFile y2.files k).dataN : Int) := by rw [hdn, hdd]; omega
    have hpk := fun p' v => (HO.out.below (show Below _ _ _ from (Below.refl _ _).drew)).poke hfa2 k hk2 gb hga p' v
    have HPK := Lib.hid (hpk P (bendV ((atFile y2.files k).data.getD P 0) mask))
    have HEND := Lib.hid (fun (w' : World) (ho' : OwnDisk w.heap.size w'.heap.size w' (pokeD y2 k P (bendV ((atFile y2.files k).data.getD P 0) mask))) (hb' : Below w.heap.size w w') => RetDkB.bent HX.out hd hk2 ho' HBY.out hb')
    have HK2 := Lib.hid hk2
    have hk3i : (k : Int) < (y2.filesN : Int) := by omega
    clear hpk hok hdd hdx hd ho hxl hdn hga HX HD2 HBU HOK hbl hki hkf HXE HKL
    unfold In8 at hv8
    obtain ⟨v0, v255⟩ := hv8
    have hbx := bendV_lt v0 v255 (show 0 ≤ mask by omega) hm2
    obtain ⟨hbx0, hbx1⟩ := hbx
    have hxor := i64_bend v0 v255 (show 0 ≤ mask by omega) hm2
    obtain ⟨room2, fuse2, fA, fN, fC, fs, oA, oN, oC, os⟩ := y2
    simp only at hfa2 z0 z1 z2 z3 hxor v0 v255 hbx0 hbx1 hk3 hk3i hfn hdn2 hPk HPK HEND hk2 ⊢
    subst hfa2
    obtain ⟨x2, hx2⟩ : ∃ x2, x2 = atFile fs k := ⟨_, rfl⟩
    rw [← hx2] at z0 z1 z2 hxor v0 v255 hbx0 hbx1 hdn2 hPk HPK HEND
    clear hx2
    obtain ⟨xm2, xA2, xN2, xC2, xL2⟩ := x2
    simp only at z0 z1 z2 hxor v0 v255 hbx0 hbx1 hdn2 hPk HPK HEND
    generalize xL2.getD P 0 = V at *
    generalize bendV V mask = B at *
    obtain ⟨c0, c1, c2, c3, _⟩ := HC.out
    go_wp2_with fail
    generalize w3.alloc (.cells #[.int .i64 room2, .int .i64 fuse2, .slice (some ⟨b2', 0, none⟩) fN fC, .slice oA oN oC] 34) = WF at *
    go_still_tail 21, (by kernel_rfl)
    change wpList _ _ _ _ _ WF.drew
    have hs2 : w.heap.size + 2 ≤ w2.heap.size := by have := hb1.size; have := hb2.size; omega
    have hsF : w3.heap.size ≤ WF.heap.size := hal.size
    obtain ⟨b0, b1, b2, b3, bf⟩ := HB4.out
    have p0 := bf 0 (by omega)
    have p1 := bf 1 (by omega)
    have p2 := bf 2 (by omega)
    have p3 := bf 3 (by omega)
    clear bf
    go_wp2
    refine bodyPost_ret (v := .tuple #[.agg #[.int .i64 room2, .int .i64 fuse2, .slice (some ⟨b2', 0, none⟩) fN fC, .slice oA oN oC], .bool true]) (by simp [results, Try.results31, go_sem, b0, b1, b2, b3]) rfl ?_
    obtain ⟨po, pw⟩ := HPK.out
    have hde : WF.drew.setCell ⟨gb, P, none⟩ (.int .u8 B) = (WF.setCell ⟨gb, P, none⟩ (.int .u8 B)).drew := rfl
    rw [hde] at po pw
    have hw5 := win_four (WF.setCell ⟨gb, P, none⟩ (.int .u8 B)).drew (w.heap.size + 1) (w.heap.size + 1) (w.heap.size + 2) (Nat.le_refl _) (by omega) (.int .i64 room2) (.int .i64 fuse2) (.slice (some ⟨b2', 0, none⟩) fN fC) (.slice oA oN oC)
    have h6 := po.win hw5 (Or.inl hs2)
    have hbD := BB4.trans (show Below w.heap.size WF WF.drew from (Below.refl _ _).drew)
    have hb6 := (hbD.trans (pw.below (by omega) hbD.size)).trans (hw5.below (by omega) (hbD.trans (pw.below (by omega) hbD.size)).size)
    refine HEND.out _ ?_ hb6
    exact (h6.lo_le (lo' := w.heap.size) (by omega)).full
end Go.Proofs.Ytoodlmhnemamhaa

/- DiskBend of the program. -/
namespace Go.Proofs.Ytoodlmhnemamhaa
open Go.RowKit
set_option maxRecDepth 100000 in
set_option maxHeartbeats 12800000 in
theorem diskBend_impl_k (y : DiskR) (D : DskD) (hD : datDisk y = D) (nm : ByteArray) (_hnm : nm.size ≤ maxLen) (p mask : Int) (w : World) (g : goodDisk w y) (hn : bulkDisk y ≤ 1048576) (g2 : In64 p) (g3 : In64 mask) :
    Calls Try.prog 32 #[.agg #[.int .i64 y.room, .int .i64 y.fuse, .slice y.filesA y.filesN y.filesC, .slice y.waitA y.waitN y.waitC], .string nm, .int .i64 p, .int .i64 mask] w fun e w' => RetDkB (bendD D nm p mask) w e w' := by
  subst hD
  have hb0 := ((Below.refl w.heap.size w).alloc (Nat.le_refl _) (.cells #[.int .i64 y.room, .int .i64 y.fuse, .slice y.filesA y.filesN y.filesC, .slice y.waitA y.waitN y.waitC] 34)).alloc (by simp) (.cells #[.int .i64 0, .int .i64 0, .slice none 0 0, .slice none 0 0] 34)
  have HA0 := OutC.mk0 w (.int .i64 y.room) (.int .i64 y.fuse) (.slice y.filesA y.filesN y.filesC) (.slice y.waitA y.waitN y.waitC) 34
  have HB0 := OutC.mk0 (w.alloc (.cells #[.int .i64 y.room, .int .i64 y.fuse, .slice y.filesA y.filesN y.filesC, .slice y.waitA y.waitN y.waitC] 34)) (.int .i64 0) (.int .i64 0) (.slice none 0 0) (.slice none 0 0) 34
  rw [show (w.alloc (.cells #[.int .i64 y.room, .int .i64 y.fuse, .slice y.filesA y.filesN y.filesC, .slice y.waitA y.waitN y.waitC] 34)).heap.size = w.heap.size + 1 from by simp] at HB0
  have HA := Lib.hid (HA0.later ((Below.refl _ _).alloc (Nat.le_refl _) (.cells #[.int .i64 0, .int .i64 0, .slice none 0 0, .slice none 0 0] 34)))
  have HB := Lib.hid HB0
  have HG := Lib.hid (show goodDisk _ y from good_of_rd (rdDisk_below (goodDisk_rd g) hb0 (Nat.le_refl _)) (goodDisk_ok g))
  have HOK := Lib.hid (goodDisk_ok g)
  have HBU := Lib.hid (bulkDisk_dat (goodDisk_rd g))
  have HFL : Hid (y.files.length = y.filesN) := Lib.hid g.2.2.1.1.len
  have HWL : Hid (y.wait.length = y.waitN) := Lib.hid g.2.2.2.1.len
  have HLF : Hid ((datDisk y).2.2.1.length = y.filesN) := Lib.hid (by show (y.files.map datFile).length = _; rw [List.length_map, HFL.out])
  have HLW : Hid ((datDisk y).2.2.2.length = y.waitN) := Lib.hid (by show (y.wait.map datFsOp).length = _; rw [List.length_map, HWL.out])
  have n1 := filesN_le hn
  have n2 := waitN_le hn
  have hz0 : w.heap.size + 2 = ((w.alloc (.cells #[.int .i64 y.room, .int .i64 y.fuse, .slice y.filesA y.filesN y.filesC, .slice y.waitA y.waitN y.waitC] 34)).alloc (.cells #[.int .i64 0, .int .i64 0, .slice none 0 0, .slice none 0 0] 34)).heap.size := by simp
  unfold In64 at g2 g3
  clear HA0 HB0 g
  go_enter Try.func32, Try.ntmps32
  go_wp2_with fail
  generalize (w.alloc (.cells #[.int .i64 y.room, .int .i64 y.fuse, .slice y.filesA y.filesN y.filesC, .slice y.waitA y.waitN y.waitC] 34)).alloc (.cells #[.int .i64 0, .int .i64 0, .slice none 0 0, .slice none 0 0] 34) = W0 at *
  refine (diskOk_impl_k y _ rfl _ HG.out hn).mono ?_
  rintro e w1 ⟨rfl, hb1⟩
  have BB1 := hb0.trans (hb1.mono hb0.size)
  have HA1 := Lib.hid (HA.out.later hb1)
  have HB1 := Lib.hid (HB.out.later hb1)
  have HG1 := Lib.hid (goodDisk_below HG.out hb1 (Nat.le_refl _))
  have hs1 : w.heap.size + 2 ≤ w1.heap.size := by have := hb1.size; omega
  clear HA HB HG
  cases hq : diskB (datDisk y).1 (datDisk y).2.1 (datDisk y).2.2.1 (datDisk y).2.2.2 with
  | false =>
    have HX : Hid (bendD (datDisk y) nm p mask = (noD, false)) := Lib.hid (bendD_no (by rw [show okD (datDisk y) = false from hq]; simp))
    clear hq
    obtain ⟨b0, b1, b2, b3, bf⟩ := HB1.out
    have p0 := bf 0 (by omega)
    have p1 := bf 1 (by omega)
    have p2 := bf 2 (by omega)
    have p3 := bf 3 (by omega)
    clear bf
    go_wp2
    refine bodyPost_ret (v := .tuple #[.agg #[.int .i64 0, .int .i64 0, .slice none 0 0, .slice none 0 0], .bool false]) (by simp [results, Try.results32, go_sem, b0, b1, b2, b3]) rfl ?_
    rw [HX.out]
    exact RetDkB.no (BB1.trans ((win_four w1 (w.heap.size + 1) (w.heap.size + 1) (w.heap.size + 2) (Nat.le_refl _) (by omega) (.int .i64 0) (.int .i64 0) (.slice none 0 0) (.slice none 0 0)).below (by omega) BB1.size))
  | true =>
    have HQ : Hid (okD (datDisk y) = true) := Lib.hid hq
    have HNB : Hid (namesB (datDisk y).2.2.1 = true) := Lib.hid (by unfold diskB at hq; simp only [Bool.and_eq_true] at hq; exact hq.2.1)
    clear hq
    obtain ⟨a0, a1, a2, a3, _⟩ := HA1.out
    by_cases hall : (y.waitN : Int) ≤ 0 ∧ 1 ≤ mask ∧ mask ≤ 255
    case neg =>
      have HX : Hid (bendD (datDisk y) nm p mask = (noD, false)) := Lib.hid (bendD_no (fun h => hall (by
        obtain ⟨_, h2, h3, _⟩ := h
        rw [HLW.out] at h2
        exact ⟨by omega, h3.1, h3.2⟩)))
      have hcases2 : (0 : Int) < (y.waitN : Int) ∨ ((y.waitN : Int) ≤ 0 ∧ mask < 1) ∨ ((y.waitN : Int) ≤ 0 ∧ 1 ≤ mask ∧ 255 < mask) := by omega
      clear hall g2 g3
      rcases hcases2 with h | ⟨h, h2⟩ | ⟨h, h2, h3⟩
      all_goals
        obtain ⟨b0, b1, b2, b3, bf⟩ := HB1.out
        have p0 := bf 0 (by omega)
        have p1 := bf 1 (by omega)
        have p2 := bf 2 (by omega)
        have p3 := bf 3 (by omega)
        clear bf
        go_wp2
        refine bodyPost_ret (v := .tuple #[.agg #[.int .i64 0, .int .i64 0, .slice none 0 0, .slice none 0 0], .bool false]) (by simp [results, Try.results32, go_sem, b0, b1, b2, b3]) rfl ?_
        rw [HX.out]
        exact RetDkB.no (BB1.trans ((win_four w1 (w.heap.size + 1) (w.heap.size + 1) (w.heap.size + 2) (Nat.le_refl _) (by omega) (.int .i64 0) (.int .i64 0) (.slice none 0 0) (.slice none 0 0)).below (by omega) BB1.size))
    obtain ⟨hw0, hm1, hm2⟩ := hall
    have HWN : Hid (y.waitN = 0) := Lib.hid (by omega)
    go_wp2_with fail
    have hcp := copyDisk_any y w1 (goodDisk_rd HG1.out) hn n1 n2
    rw [HWN.out] at hcp
    refine hcp.mono ?_
    rintro e w2 ⟨y2, rfl, hd, ho, hb2⟩
    clear hcp a0 a1 a2 a3
    have BB2 := BB1.trans (hb2.mono BB1.size)
    have hal := (Below.refl w2.heap.size w2).alloc (Nat.le_refl _) (.cells #[.int .i64 y2.room, .int .i64 y2.fuse, .slice y2.filesA y2.filesN y2.filesC, .slice y2.waitA y2.waitN y2.waitC] 34)
    have HC := Lib.hid (OutC.mk0 w2 (.int .i64 y2.room) (.int .i64 y2.fuse) (.slice y2.filesA y2.filesN y2.filesC) (.slice y2.waitA y2.waitN y2.waitC) 34)
    have HB2 := Lib.hid ((HB1.out.later hb2).later hal)
    have HO := Lib.hid (ho.below hal)
    have BBF := BB2.trans (hal.mono BB2.size)
    have HBY : Hid (bulkDisk y2 ≤ 1048576) := Lib.hid (by rw [bulkDisk_dat ho.rd, hd, ← HBU.out]; exact hn)
    have HOK2 := Lib.hid (okDisk_dat HOK.out hd)
    have HFD : Hid (y2.files.map datFile = (datDisk y).2.2.1) := Lib.hid (congrArg (fun D : DskD => D.2.2.1) hd)
    have HD2 := Lib.hid hd
    have hsF : w2.heap.size < (w2.alloc (.cells #[.int .i64 y2.room, .int .i64 y2.fuse, .slice y2.filesA y2.filesN y2.filesC, .slice y2.waitA y2.waitN y2.waitC] 34)).heap.size := by simp
    have hs2 : w.heap.size + 2 ≤ w2.heap.size := by have := hb2.size; omega
    have hgr := ho.rd.1.1
    have fl := hgr.le
    have fm := hgr.max
    unfold maxLen at fm
    have HL2 := Lib.hid hgr.len
    have HFR := Lib.hid (HO.out.rd.1.1)
    clear hgr ho hd HBU HOK
    obtain ⟨room2, fuse2, fA, fN, fC, fs, oA, oN, oC, os⟩ := y2
    simp only [fR] at HL2 HFR fl fm HC HO HBY HOK2 HFD HD2 hal hsF BBF HB2 ⊢
    obtain ⟨c0, c1, c2, c3, _⟩ := HC.out
    go_wp2_with fail
    generalize w2.alloc (.cells #[.int .i64 room2, .int .i64 fuse2, .slice fA fN fC, .slice oA oN oC] 34) = WF at *
    clear c0 c1 c3
    go_loopw [36] (fun i wr => ∃ j : Nat, j ≤ fN ∧ i = .int .i64 j ∧ Hid (∀ t, t < j → ¬ (eqN (atFD (datDisk y).2.2.1 t).1 nm = true ∧ 0 ≤ p ∧ p < ((atFD (datDisk y).2.2.1 t).2.length : Int))) ∧ Below WF.heap.size WF wr) (fun i _ => fN - (intOf i).toNat)
    case atStart => exact ⟨0, Nat.zero_le _, rfl, Lib.hid (fun t ht => absurd ht (Nat.not_lt_zero t)), Below.refl _ _⟩
    case round =>
      obtain ⟨j, hj, rfl, HT, hb⟩ := hrel
      have BBr := BBF.trans (hb.mono BBF.size)
      by_cases hlt : j < fN
      · obtain ⟨b, off, rfl, hbl, hc⟩ := HFR.out.rowFile (by omega)
        obtain ⟨k0, k1⟩ := hc j hlt
        have cb : ∀ o, wr.cell? ⟨b, o, none⟩ = WF.cell? ⟨b, o, none⟩ := fun o => hb.cell (p := ⟨b, o, none⟩) hbl
        rw [← cb] at k0 k1
        have hi1 : (j : Int) < (fN : Int) := by omega
        have hjx : j < fs.length := by rw [HL2.out]; exact hlt
        have HJX := Lib.hid hjx
        have HAJ : Hid (atFD (datDisk y).2.2.1 j = datFile (atFile fs j)) := Lib.hid (by rw [← HFD.out, atFD_dat _ _ hjx])
        have hbx := (Below.refl wr.heap.size wr).alloc (Nat.le_refl _) (.cells #[.string (atFile fs j).name, .slice (atFile fs j).dataA (atFile fs j).dataN (atFile fs j).dataC] 71)
        have BBx := BBr.trans (hbx.mono BBr.size)
        have hbWx := hb.trans (hbx.mono hb.size)
        have HOX := Lib.hid (HO.out.below hbWx)
        have hdl : (atFile fs j).data.length = (atFile fs j).dataN := by rw [atFile_eq _ _ hjx]; exact (HOX.out.rd.1.2 _ (List.getElem_mem hjx)).len
        have hse := toList_eqN (atFile fs j).name nm
        have hdm : (atFile fs j).dataN ≤ 9223372036854775807 := by
          have h5 := HOX.out.rd.1.2 _ (List.getElem_mem hjx)
          have h6 := h5.le
          have h7 := h5.max
          unfold maxLen at h7
          rw [atFile_eq _ _ hjx]
          have h8 : fs[j].dataN ≤ fs[j].dataC := h6
          have h9 : fs[j].dataC ≤ 9223372036854775807 := h7
          omega
        clear hc cb hjx
        by_cases hit : eqN (atFile fs j).name nm = true ∧ 0 ≤ p ∧ p < ((atFile fs j).dataN : Int)
        case neg =>
          have HT2 : Hid (∀ t, t < j + 1 → ¬ (eqN (atFD (datDisk y).2.2.1 t).1 nm = true ∧ 0 ≤ p ∧ p < ((atFD (datDisk y).2.2.1 t).2.length : Int))) := Lib.hid (fun t ht => by
            by_cases e : t = j
            · rw [e, HAJ.out]
              show ¬ (eqN (atFile fs j).name nm = true ∧ 0 ≤ p ∧ p < ((atFile fs j).data.length : Int))
              rw [hdl]
              exact hit
            · exact HT.out t (by omega))
          have hcs : eqN (atFile fs j).name nm = false ∨ (eqN (atFile fs j).name nm = true ∧ p < 0) ∨ (eqN (atFile fs j).name nm = true ∧ 0 ≤ p ∧ ((atFile fs j).dataN : Int) ≤ p) := by
            cases he : eqN (atFile fs j).name nm with
            | false => exact Or.inl rfl
            | true =>
              have : ¬ (0 ≤ p ∧ p < ((atFile fs j).dataN : Int)) := fun h => hit ⟨he, h⟩
              by_cases h0 : p < 0
              · exact Or.inr (Or.inl ⟨rfl, h0⟩)
              · exact Or.inr (Or.inr ⟨rfl, by omega, by omega⟩)
          clear HAJ hdl hit HT
          generalize atFile fs j = x at *
          obtain ⟨xm, xA, xN, xC, xL⟩ := x
          simp only at k0 k1 hcs hse hdm
          rcases hcs with he | ⟨he, h0⟩ | ⟨he, h0, h1⟩
          all_goals
            rw [he] at hse
            clear he
            go_wp2
            go_roundw
            case rel => exact ⟨j + 1, by omega, by go_num, HT2, hbWx⟩
            case measure => simp [intOf]; omega
        obtain ⟨he, hp0, hin⟩ := hit
        obtain ⟨P, hP⟩ := Int.eq_ofNat_of_zero_le hp0
        subst hP
        have hPd : P < (atFile fs j).data.length := by rw [hdl]; omega
        have HPL : Hid (placeF (datDisk y).2.2.1 nm = j) := Lib.hid (by
          have e2 := congrArg List.length HFD.out
          rw [List.length_map] at e2
          have e3 := HJX.out
          exact placeF_one HNB.out (by omega) (by rw [HAJ.out]; exact he))
        have HX : Hid (bendD (datDisk y) nm (P : Int) mask = (((datDisk y).1, (datDisk y).2.1, bendF (datDisk y).2.2.1 j P mask, (datDisk y).2.2.2), true)) := Lib.hid (by
          have e2 := congrArg List.length HFD.out
          rw [List.length_map] at e2
          have e3 := HJX.out
          rw [bendD_yes ⟨HQ.out, by rw [HLW.out]; omega, ⟨hm1, hm2⟩, by rw [HPL.out]; omega, hp0, by rw [HPL.out, HAJ.out]; show (P : Int) < ((atFile fs j).data.length : Int); omega⟩, HPL.out]
          rfl)
        obtain ⟨b', gb, hfa2, hga, hgl, hgh, hk3, hfn, hdn, hdn2, z0, z1, z2, z3⟩ := HOX.out.spot (k := j) HJX.out (P := P) hPd
        have hv8 : In8 ((atFile fs j).data.getD P 0) := by
          have h5 := (HOK2.out.2.2.1 (atFile fs j) (by rw [atFile_eq _ _ HJX.out]; exact List.getElem_mem HJX.out)).2
          rw [List.getD_eq_getElem?_getD, List.getElem?_eq_getElem hPd]
          exact h5 _ (List.getElem_mem hPd)
        have HPK := Lib.hid (HOX.out.poke hfa2 j HJX.out gb hga P (bendV ((atFile fs j).data.getD P 0) mask))
        have HEND := Lib.hid (fun (w' : World) (ho' : OwnDisk w.heap.size w'.heap.size w' (pokeD ⟨room2, fuse2, some ⟨b, off, none⟩, fN, fC, fs, oA, oN, oC, os⟩ j P (bendV ((atFile fs j).data.getD P 0) mask))) (hb' : Below w.heap.size w w') => RetDkB.bent HX.out HD2.out HJX.out ho' HBY.out hb')
        have HBX := Lib.hid (HB2.out.later hbWx)
        have HCX := Lib.hid (HC.out.later hbWx)
        rw [he] at hse
        clear he HX HPL HAJ HT hPd hdl hdn hfa2
        unfold In8 at hv8
        obtain ⟨v0, v255⟩ := hv8
        have hbv := bendV_lt v0 v255 (show 0 ≤ mask by omega) hm2
        obtain ⟨hbx0, hbx1⟩ := hbv
        have hxor := u8_bend v0 v255 (show 0 ≤ mask by omega) hm2
        obtain ⟨x2, hx2⟩ : ∃ x2, x2 = atFile fs j := ⟨_, rfl⟩
        rw [← hx2] at k0 k1 hbx BBx hbWx hdm hin hga z1 z2 z3 HPK HEND v0 v255 hbx0 hbx1 hxor hdn2 hse HBX HCX HOX
        clear hx2 z0
        obtain ⟨xm, xA, xN, xC, xL⟩ := x2
        simp only at k0 k1 hbx BBx hbWx hdm hin hga z1 z2 z3 HPK HEND v0 v255 hbx0 hbx1 hxor hdn2 hse HBX HCX HOX
        subst hga
        generalize xL.getD P 0 = V at *
        generalize bendV V mask = B at *
        have E1 : (wr.alloc (.cells #[.string xm, .slice (some ⟨gb, 0, none⟩) xN xC] 71)).cell? ⟨wr.heap.size, 1, none⟩ = some (.slice (some ⟨gb, 0, none⟩) xN xC) := by simp [go_sem]
        have hwF : WF.heap.size ≤ wr.heap.size := hb.size
        obtain ⟨b0, b1, b2, b3, bf⟩ := HBX.out
        have p0 := bf 0 (by omega)
        have p1 := bf 1 (by omega)
        have p2 := bf 2 (by omega)
        have p3 := bf 3 (by omega)
        clear bf
        obtain ⟨c0, c1, c2, c3, _⟩ := HCX.out
        go_wp2
        refine bodyPost_ret (v := .tuple #[.agg #[.int .i64 room2, .int .i64 fuse2, .slice (some ⟨b, off, none⟩) fN fC, .slice oA oN oC], .bool true]) (by simp [results, Try.results32, go_sem, b0, b1, b2, b3]) rfl ?_
        obtain ⟨po, pw⟩ := HPK.out
        have hw5 := win_four ((wr.alloc (.cells #[.string xm, .slice (some ⟨gb, 0, none⟩) xN xC] 71)).setCell ⟨gb, P, none⟩ (.int .u8 B)) (w.heap.size + 1) (w.heap.size + 1) (w.heap.size + 2) (Nat.le_refl _) (by omega) (.int .i64 room2) (.int .i64 fuse2) (.slice (some ⟨b, off, none⟩) fN fC) (.slice oA oN oC)
        have h6 := po.win hw5 (Or.inl hs1)
        have hb5 := BBx.trans (pw.below (by omega) BBx.size)
        have hb6 := hb5.trans (hw5.below (by omega) hb5.size)
        refine HEND.out _ ?_ hb6
        exact (h6.lo_le (lo' := w.heap.size) (by omega)).full
      · obtain rfl : j = fN := by omega
        have HX : Hid (bendD (datDisk y) nm p mask = (noD, false)) := Lib.hid (bendD_no (fun h => by
          obtain ⟨_, _, _, h4, h5, h6⟩ := h
          have e2 := congrArg List.length HFD.out
          rw [List.length_map, HL2.out] at e2
          exact HT.out _ (by omega) ⟨placeF_at h4, h5, h6⟩))
        have HBr := Lib.hid (HB2.out.later hb)
        have hsz := hb.size
        obtain ⟨b0, b1, b2, b3, bf⟩ := HBr.out
        have p0 := bf 0 (by omega)
        have p1 := bf 1 (by omega)
        have p2 := bf 2 (by omega)
        have p3 := bf 3 (by omega)
        clear bf
        go_wp2
        refine bodyPost_ret (v := .tuple #[.agg #[.int .i64 0, .int .i64 0, .slice none 0 0, .slice none 0 0], .bool false]) (by simp [results, Try.results32, go_sem, b0, b1, b2, b3]) rfl ?_
        rw [HX.out]
        exact RetDkB.no (BBr.trans ((win_four wr (w.heap.size + 1) (w.heap.size + 1) (w.heap.size + 2) (Nat.le_refl _) (by omega) (.int .i64 0) (.int .i64 0) (.slice none 0 0) (.slice none 0 0)).below (by omega) BBr.size))
end Go.Proofs.Ytoodlmhnemamhaa

/- FnExactDiskBend: the walk of the law out of the contracts of what it calls. -/
namespace Go.Proofs.Ytoodlmhnemamhaa
open Go.RowKit
set_option linter.unusedVariables false in
set_option maxRecDepth 100000 in
set_option maxHeartbeats 6400000 in
theorem walk_FnExactDiskBend (y0 : DiskR) (s1 : ByteArray) (x2 : Int) (x3 : Int) (w : World) (g0 : goodDisk w y0) (g1 : s1.size ≤ maxLen) (g2 : In64 x2) (g3 : In64 x3) :
    Calls Try.prog 8 #[.agg #[.int .i64 y0.room, .int .i64 y0.fuse, .slice y0.filesA y0.filesN y0.filesC, .slice y0.waitA y0.waitN y0.waitC], .string s1, .int .i64 x2, .int .i64 x3] w fun e w' => e = .returned (.bool true) ∧ Below w.heap.size w w' := by
  unfold maxLen at *
  by_cases hg0 : s1.size ≤ 1048576
  · by_cases hg1 : bulkDisk y0 ≤ 1048576
    · have BB0 := Below.refl w.heap.size w
      have okY0 := goodDisk_ok g0
      have hn0 : bulkDisk y0 ≤ 1048576 := by omega
      go_enter Try.func8, Try.ntmps8
      have HL0 := Lib.hid (leftB_yes (left := 1048576) (n := bulkDisk y0) (by omega))
      have ha1 := ((Below.refl w.heap.size w).alloc (Nat.le_refl _) (.cells #[.int .i64 y0.room, .int .i64 y0.fuse, .slice y0.filesA y0.filesN y0.filesC, .slice y0.waitA y0.waitN y0.waitC] 43))
      have BP1 := BB0.trans (ha1.mono BB0.size)
      go_wp2_with fail
      refine (szDisk_k y0 _ _ (rdDisk_below (goodDisk_rd g0) BP1 (Nat.le_refl _)) (goodDisk_str g0) (by omega) (by omega)).mono ?_
      rintro e w1 ⟨rfl, hb1⟩
      rw [HL0.out]
      have hx1 : Below w.heap.size w w1 := ha1.trans (hb1.mono ha1.size)
      have szz1 : w.heap.size + 1 ≤ w1.heap.size := by have := hb1.size; simp at this; omega
      obtain ⟨hc1, hf1⟩ := bcell hb1
      have c1_a0_0 : w1.cell? ⟨w.heap.size, 0, none⟩ = some (.int .i64 y0.room) := by rw [hc1 _ _ (by simp)]; simp [go_sem]
      have c1_a0_1 : w1.cell? ⟨w.heap.size, 1, none⟩ = some (.int .i64 y0.fuse) := by rw [hc1 _ _ (by simp)]; simp [go_sem]
      have c1_a0_2 : w1.cell? ⟨w.heap.size, 2, none⟩ = some (.slice y0.filesA y0.filesN y0.filesC) := by rw [hc1 _ _ (by simp)]; simp [go_sem]
      have c1_a0_3 : w1.cell? ⟨w.heap.size, 3, none⟩ = some (.slice y0.waitA y0.waitN y0.waitC) := by rw [hc1 _ _ (by simp)]; simp [go_sem]
      clear hc1 hf1
      have BB1 := BB0.trans (hx1.mono BB0.size)
      have sz1 := hx1.size
      go_wp2_with fail
      refine (toDisk_k y0 _ (rdDisk_below (goodDisk_rd g0) BB1 (Nat.le_refl _)) hn0).mono ?_
      rintro e w2 ⟨u0, rfl, hdu0, H2u0, hku0, hb2⟩
      have BB2 := BB1.trans (hb2.mono BB1.size)
      have sz2 := hb2.size
      have c2_a0_0 := cell_later hb2 c1_a0_0
      clear c1_a0_0
      have c2_a0_1 := cell_later hb2 c1_a0_1
      clear c1_a0_1
      have c2_a0_2 := cell_later hb2 c1_a0_2
      clear c1_a0_2
      have c2_a0_3 := cell_later hb2 c1_a0_3
      clear c1_a0_3
      have HDu0 := Lib.hid hdu0
      clear hdu0
      have oku0 := okDisk_dat okY0 HDu0.out
      go_wp2_with fail
      refine (diskBend_spec_k u0 (datDisk y0) HDu0.out s1 (by unfold maxLen; omega) x2 x3 _ (H2u0.good oku0) (by rw [hku0]; exact hn0) g2 g3).mono ?_
      rintro e w3 ⟨W, rfl, hdW, H3W, hkW, hb3⟩
      have BB3 := BB2.trans (hb3.mono BB2.size)
      have sz3 := hb3.size
      have H3u0 := H2u0.below hb3
      clear H2u0
      have c3_a0_0 := cell_later hb3 c2_a0_0
      clear c2_a0_0
      have c3_a0_1 := cell_later hb3 c2_a0_1
      clear c2_a0_1
      have c3_a0_2 := cell_later hb3 c2_a0_2
      clear c2_a0_2
      have c3_a0_3 := cell_later hb3 c2_a0_3
      clear c2_a0_3
      have HDW := Lib.hid hdW
      clear hdW
      have hl4_a0_0 := World.block_lt_of_cell? _ _ c3_a0_0
      simp only at hl4_a0_0
      have ha4 := ((Below.refl w3.heap.size w3).alloc (Nat.le_refl _) (.cells #[.int .i64 W.room, .int .i64 W.fuse, .slice W.filesA W.filesN W.filesC, .slice W.waitA W.waitN W.waitC] 34))
      have BP4 := BB3.trans (ha4.mono BB3.size)
      go_wp2_with fail
      refine (toDisk_k y0 _ (rdDisk_below (goodDisk_rd g0) BP4 (Nat.le_refl _)) hn0).mono ?_
      rintro e w4 ⟨x0, rfl, hdx0, H4x0, hkx0, hb4⟩
      have hx4 : Below w3.heap.size w3 w4 := ha4.trans (hb4.mono ha4.size)
      have szz4 : w3.heap.size + 1 ≤ w4.heap.size := by have := hb4.size; simp at this; omega
      obtain ⟨hc4, hf4⟩ := bcell hb4
      have c4_W_0 : w4.cell? ⟨w3.heap.size, 0, none⟩ = some (.int .i64 W.room) := by rw [hc4 _ _ (by simp)]; simp [go_sem]
      have c4_W_1 : w4.cell? ⟨w3.heap.size, 1, none⟩ = some (.int .i64 W.fuse) := by rw [hc4 _ _ (by simp)]; simp [go_sem]
      have c4_W_2 : w4.cell? ⟨w3.heap.size, 2, none⟩ = some (.slice W.filesA W.filesN W.filesC) := by rw [hc4 _ _ (by simp)]; simp [go_sem]
      have c4_W_3 : w4.cell? ⟨w3.heap.size, 3, none⟩ = some (.slice W.waitA W.waitN W.waitC) := by rw [hc4 _ _ (by simp)]; simp [go_sem]
      clear hc4 hf4
      have BB4 := BB3.trans (hx4.mono BB3.size)
      have sz4 := hx4.size
      have H4W := H3W.below hx4
      clear H3W
      have c4_a0_0 := cell_later hx4 c3_a0_0
      clear c3_a0_0
      have c4_a0_1 := cell_later hx4 c3_a0_1
      clear c3_a0_1
      have c4_a0_2 := cell_later hx4 c3_a0_2
      clear c3_a0_2
      have c4_a0_3 := cell_later hx4 c3_a0_3
      clear c3_a0_3
      replace H4x0 := H4x0.lo_le (lo' := w3.heap.size + 1) (by simp)
      have HDx0 := Lib.hid hdx0
      clear hdx0
      have okx0 := okDisk_dat okY0 HDx0.out
      have hl5_a0_0 := World.block_lt_of_cell? _ _ c4_a0_0
      simp only at hl5_a0_0
      have hl5_W_0 := World.block_lt_of_cell? _ _ c4_W_0
      simp only at hl5_W_0
      have ha5 := ((Below.refl w4.heap.size w4).alloc (Nat.le_refl _) (.cells #[.int .i64 x0.room, .int .i64 x0.fuse, .slice x0.filesA x0.filesN x0.filesC, .slice x0.waitA x0.waitN x0.waitC] 34))
      have BP5 := BB4.trans (ha5.mono BB4.size)
      go_wp2_with fail
      refine (diskBend_impl_k x0 (datDisk y0) HDx0.out s1 (by unfold maxLen; omega) x2 x3 _ ((H4x0.below ha5).good okx0) (by rw [hkx0]; exact hn0) g2 g3).mono ?_
      rintro e w5 ⟨G, rfl, hdG, H5G, hkG, hb5⟩
      have hx5 : Below w4.heap.size w4 w5 := ha5.trans (hb5.mono ha5.size)
      have szz5 : w4.heap.size + 1 ≤ w5.heap.size := by have := hb5.size; simp at this; omega
      obtain ⟨hc5, hf5⟩ := bcell hb5
      have c5_x0_0 : w5.cell? ⟨w4.heap.size, 0, none⟩ = some (.int .i64 x0.room) := by rw [hc5 _ _ (by simp)]; simp [go_sem]
      have c5_x0_1 : w5.cell? ⟨w4.heap.size, 1, none⟩ = some (.int .i64 x0.fuse) := by rw [hc5 _ _ (by simp)]; simp [go_sem]
      have c5_x0_2 : w5.cell? ⟨w4.heap.size, 2, none⟩ = some (.slice x0.filesA x0.filesN x0.filesC) := by rw [hc5 _ _ (by simp)]; simp [go_sem]
      have c5_x0_3 : w5.cell? ⟨w4.heap.size, 3, none⟩ = some (.slice x0.waitA x0.waitN x0.waitC) := by rw [hc5 _ _ (by simp)]; simp [go_sem]
      clear hc5 hf5
      have BB5 := BB4.trans (hx5.mono BB4.size)
      have sz5 := hx5.size
      have H5W := H4W.below hx5
      clear H4W
      have H5x0 := H4x0.below hx5
      clear H4x0
      have c5_a0_0 := cell_later hx5 c4_a0_0
      clear c4_a0_0
      have c5_a0_1 := cell_later hx5 c4_a0_1
      clear c4_a0_1
      have c5_a0_2 := cell_later hx5 c4_a0_2
      clear c4_a0_2
      have c5_a0_3 := cell_later hx5 c4_a0_3
      clear c4_a0_3
      have c5_W_0 := cell_later hx5 c4_W_0
      clear c4_W_0
      have c5_W_1 := cell_later hx5 c4_W_1
      clear c4_W_1
      have c5_W_2 := cell_later hx5 c4_W_2
      clear c4_W_2
      have c5_W_3 := cell_later hx5 c4_W_3
      clear c4_W_3
      replace H5G := H5G.lo_le (lo' := w4.heap.size + 1) (by simp)
      have HDG := Lib.hid hdG
      clear hdG
      have hl6_a0_0 := World.block_lt_of_cell? _ _ c5_a0_0
      simp only at hl6_a0_0
      have hl6_W_0 := World.block_lt_of_cell? _ _ c5_W_0
      simp only at hl6_W_0
      have hl6_x0_0 := World.block_lt_of_cell? _ _ c5_x0_0
      simp only at hl6_x0_0
      have ha6 := ((Below.refl w5.heap.size w5).alloc (Nat.le_refl _) (.cells #[.int .i64 G.room, .int .i64 G.fuse, .slice G.filesA G.filesN G.filesC, .slice G.waitA G.waitN G.waitC] 34))
      have BP6 := BB5.trans (ha6.mono BB5.size)
      go_wp2_with fail
      refine (eqDisk_k G W _ _ HDG.out HDW.out _ (H5G.below ha6).rd (H5W.below ha6).rd).mono ?_
      rintro e w6 ⟨rfl, hb6⟩
      have hx6 : Below w5.heap.size w5 w6 := ha6.trans (hb6.mono ha6.size)
      have szz6 : w5.heap.size + 1 ≤ w6.heap.size := by have := hb6.size; simp at this; omega
      obtain ⟨hc6, hf6⟩ := bcell hb6
      have c6_G_0 : w6.cell? ⟨w5.heap.size, 0, none⟩ = some (.int .i64 G.room) := by rw [hc6 _ _ (by simp)]; simp [go_sem]
      have c6_G_1 : w6.cell? ⟨w5.heap.size, 1, none⟩ = some (.int .i64 G.fuse) := by rw [hc6 _ _ (by simp)]; simp [go_sem]
      have c6_G_2 : w6.cell? ⟨w5.heap.size, 2, none⟩ = some (.slice G.filesA G.filesN G.filesC) := by rw [hc6 _ _ (by simp)]; simp [go_sem]
      have c6_G_3 : w6.cell? ⟨w5.heap.size, 3, none⟩ = some (.slice G.waitA G.waitN G.waitC) := by rw [hc6 _ _ (by simp)]; simp [go_sem]
      clear hc6 hf6
      have BB6 := BB5.trans (hx6.mono BB5.size)
      have sz6 := hx6.size
      have H6W := H5W.below hx6
      clear H5W
      have H6x0 := H5x0.below hx6
      clear H5x0
      have H6G := H5G.below hx6
      clear H5G
      have c6_a0_0 := cell_later hx6 c5_a0_0
      clear c5_a0_0
      have c6_a0_1 := cell_later hx6 c5_a0_1
      clear c5_a0_1
      have c6_a0_2 := cell_later hx6 c5_a0_2
      clear c5_a0_2
      have c6_a0_3 := cell_later hx6 c5_a0_3
      clear c5_a0_3
      have c6_W_0 := cell_later hx6 c5_W_0
      clear c5_W_0
      have c6_W_1 := cell_later hx6 c5_W_1
      clear c5_W_1
      have c6_W_2 := cell_later hx6 c5_W_2
      clear c5_W_2
      have c6_W_3 := cell_later hx6 c5_W_3
      clear c5_W_3
      have c6_x0_0 := cell_later hx6 c5_x0_0
      clear c5_x0_0
      have c6_x0_1 := cell_later hx6 c5_x0_1
      clear c5_x0_1
      have c6_x0_2 := cell_later hx6 c5_x0_2
      clear c5_x0_2
      have c6_x0_3 := cell_later hx6 c5_x0_3
      clear c5_x0_3
      go_wp2_with fail
      go_region_held3 (fun w' => w'.cell? ⟨w.heap.size, 0, none⟩ = some (.int .i64 y0.room) ∧ w'.cell? ⟨w.heap.size, 1, none⟩ = some (.int .i64 y0.fuse) ∧ w'.cell? ⟨w.heap.size, 2, none⟩ = some (.slice y0.filesA y0.filesN y0.filesC) ∧ w'.cell? ⟨w.heap.size, 3, none⟩ = some (.slice y0.waitA y0.waitN y0.waitC) ∧ w'.cell? ⟨w4.heap.size, 0, none⟩ = some (.int .i64 x0.room) ∧ w'.cell? ⟨w4.heap.size, 1, none⟩ = some (.int .i64 x0.fuse) ∧ w'.cell? ⟨w4.heap.size, 2, none⟩ = some (.slice x0.filesA x0.filesN x0.filesC) ∧ w'.cell? ⟨w4.heap.size, 3, none⟩ = some (.slice x0.waitA x0.waitN x0.waitC) ∧ Below w6.heap.size w6 w') (first | exact keepd8 (by assumption) | exact keep8 (by assumption) (Nat.le_refl _) (by assumption) | exact ⟨c6_a0_0, c6_a0_1, c6_a0_2, c6_a0_3, c6_x0_0, c6_x0_1, c6_x0_2, c6_x0_3, (Below.refl _ _).drew⟩) (first | (go_at_call 22; refine (toDisk_k y0 _ (rdDisk_below (goodDisk_rd g0) (BB6.trans ((tail8 (by assumption) : Below w6.heap.size w6 _).mono BB6.size)) (Nat.le_refl _)) hn0).mono ?_; rintro e wa ⟨t, rfl, hdt, Ht, hkt, hba⟩) | (go_at_call 17; refine (eqDisk_k x0 t _ _ HDx0.out hdt _ (H6x0.below (tail8 (by assumption) : Below w6.heap.size w6 _)).rd Ht.rd).mono ?_; rintro e wb ⟨rfl, hbb⟩))
      have hb7 : Below w6.heap.size w6 _ := tail8 (by assumption)
      have BB7 := BB6.trans (hb7.mono BB6.size)
      have sz7 := hb7.size
      have H7W := H6W.below hb7
      clear H6W
      have H7x0 := H6x0.below hb7
      clear H6x0
      have H7G := H6G.below hb7
      clear H6G
      have c7_a0_0 := cell_later hb7 c6_a0_0
      clear c6_a0_0
      have c7_a0_1 := cell_later hb7 c6_a0_1
      clear c6_a0_1
      have c7_a0_2 := cell_later hb7 c6_a0_2
      clear c6_a0_2
      have c7_a0_3 := cell_later hb7 c6_a0_3
      clear c6_a0_3
      have c7_W_0 := cell_later hb7 c6_W_0
      clear c6_W_0
      have c7_W_1 := cell_later hb7 c6_W_1
      clear c6_W_1
      have c7_W_2 := cell_later hb7 c6_W_2
      clear c6_W_2
      have c7_W_3 := cell_later hb7 c6_W_3
      clear c6_W_3
      have c7_x0_0 := cell_later hb7 c6_x0_0
      clear c6_x0_0
      have c7_x0_1 := cell_later hb7 c6_x0_1
      clear c6_x0_1
      have c7_x0_2 := cell_later hb7 c6_x0_2
      clear c6_x0_2
      have c7_x0_3 := cell_later hb7 c6_x0_3
      clear c6_x0_3
      have c7_G_0 := cell_later hb7 c6_G_0
      clear c6_G_0
      have c7_G_1 := cell_later hb7 c6_G_1
      clear c6_G_1
      have c7_G_2 := cell_later hb7 c6_G_2
      clear c6_G_2
      have c7_G_3 := cell_later hb7 c6_G_3
      clear c6_G_3
      skip
      replace hkx0 : bulkDisk x0 ≤ 1048576 := by rw [hkx0]; exact hn0
      have cn0 := cntDisk_own H7x0 hkx0
      go_wp2_with fail
      refine (markDisk_k x0 (1) _ _ _ H7x0 hkx0 (by omega) (by omega)).mono ?_
      rintro e w8 ⟨rfl, HE8x0, hb8⟩
      have BB8 := BB7.trans (hb8.below (B := w.heap.size) (by omega) BB7.size)
      have sz8 := hb8.size
      have H8W := H7W.win hb8 (by omega)
      clear H7W
      have H8G := H7G.win hb8 (by omega)
      clear H7G
      have c8_a0_0 := cell_win hb8 c7_a0_0 (by omega)
      clear c7_a0_0
      have c8_a0_1 := cell_win hb8 c7_a0_1 (by omega)
      clear c7_a0_1
      have c8_a0_2 := cell_win hb8 c7_a0_2 (by omega)
      clear c7_a0_2
      have c8_a0_3 := cell_win hb8 c7_a0_3 (by omega)
      clear c7_a0_3
      have c8_W_0 := cell_win hb8 c7_W_0 (by omega)
      clear c7_W_0
      have c8_W_1 := cell_win hb8 c7_W_1 (by omega)
      clear c7_W_1
      have c8_W_2 := cell_win hb8 c7_W_2 (by omega)
      clear c7_W_2
      have c8_W_3 := cell_win hb8 c7_W_3 (by omega)
      clear c7_W_3
      have c8_x0_0 := cell_win hb8 c7_x0_0 (by omega)
      clear c7_x0_0
      have c8_x0_1 := cell_win hb8 c7_x0_1 (by omega)
      clear c7_x0_1
      have c8_x0_2 := cell_win hb8 c7_x0_2 (by omega)
      clear c7_x0_2
      have c8_x0_3 := cell_win hb8 c7_x0_3 (by omega)
      clear c7_x0_3
      have c8_G_0 := cell_win hb8 c7_G_0 (by omega)
      clear c7_G_0
      have c8_G_1 := cell_win hb8 c7_G_1 (by omega)
      clear c7_G_1
      have c8_G_2 := cell_win hb8 c7_G_2 (by omega)
      clear c7_G_2
      have c8_G_3 := cell_win hb8 c7_G_3 (by omega)
      clear c7_G_3
      go_wp2_with fail
      refine (eqDisk_k G W _ _ HDG.out HDW.out _ H8G.rd H8W.rd).mono ?_
      rintro e w9 ⟨rfl, hb9⟩
      have BB9 := BB8.trans (hb9.mono BB8.size)
      have sz9 := hb9.size
      have H9W := H8W.below hb9
      clear H8W
      have H9G := H8G.below hb9
      clear H8G
      have c9_a0_0 := cell_later hb9 c8_a0_0
      clear c8_a0_0
      have c9_a0_1 := cell_later hb9 c8_a0_1
      clear c8_a0_1
      have c9_a0_2 := cell_later hb9 c8_a0_2
      clear c8_a0_2
      have c9_a0_3 := cell_later hb9 c8_a0_3
      clear c8_a0_3
      have c9_W_0 := cell_later hb9 c8_W_0
      clear c8_W_0
      have c9_W_1 := cell_later hb9 c8_W_1
      clear c8_W_1
      have c9_W_2 := cell_later hb9 c8_W_2
      clear c8_W_2
      have c9_W_3 := cell_later hb9 c8_W_3
      clear c8_W_3
      have c9_G_0 := cell_later hb9 c8_G_0
      clear c8_G_0
      have c9_G_1 := cell_later hb9 c8_G_1
      clear c8_G_1
      have c9_G_2 := cell_later hb9 c8_G_2
      clear c8_G_2
      have c9_G_3 := cell_later hb9 c8_G_3
      clear c8_G_3
      go_wp2_with fail
      refine (markDisk_k G (1) _ _ _ H9G hkG (by omega) (by omega)).mono ?_
      rintro e w10 ⟨rfl, HE10G, hb10⟩
      have BB10 := BB9.trans (hb10.below (B := w.heap.size) (by omega) BB9.size)
      have sz10 := hb10.size
      have H10W := H9W.win hb10 (by omega)
      clear H9W
      have c10_a0_0 := cell_win hb10 c9_a0_0 (by omega)
      clear c9_a0_0
      have c10_a0_1 := cell_win hb10 c9_a0_1 (by omega)
      clear c9_a0_1
      have c10_a0_2 := cell_win hb10 c9_a0_2 (by omega)
      clear c9_a0_2
      have c10_a0_3 := cell_win hb10 c9_a0_3 (by omega)
      clear c9_a0_3
      have c10_W_0 := cell_win hb10 c9_W_0 (by omega)
      clear c9_W_0
      have c10_W_1 := cell_win hb10 c9_W_1 (by omega)
      clear c9_W_1
      have c10_W_2 := cell_win hb10 c9_W_2 (by omega)
      clear c9_W_2
      have c10_W_3 := cell_win hb10 c9_W_3 (by omega)
      clear c9_W_3
      have c10_G_0 := cell_win hb10 c9_G_0 (by omega)
      clear c9_G_0
      have c10_G_1 := cell_win hb10 c9_G_1 (by omega)
      clear c9_G_1
      have c10_G_2 := cell_win hb10 c9_G_2 (by omega)
      clear c9_G_2
      have c10_G_3 := cell_win hb10 c9_G_3 (by omega)
      clear c9_G_3
      go_wp2_with fail
      refine (heldDisk_k G 1 _ HE10G (by omega) (by omega)).mono ?_
      rintro e w11 ⟨rfl, hb11⟩
      have BB11 := BB10.trans (hb11.mono BB10.size)
      have sz11 := hb11.size
      have H11W := H10W.below hb11
      clear H10W
      have H11G := HE10G.below hb11
      clear HE10G
      have c11_a0_0 := cell_later hb11 c10_a0_0
      clear c10_a0_0
      have c11_a0_1 := cell_later hb11 c10_a0_1
      clear c10_a0_1
      have c11_a0_2 := cell_later hb11 c10_a0_2
      clear c10_a0_2
      have c11_a0_3 := cell_later hb11 c10_a0_3
      clear c10_a0_3
      have c11_W_0 := cell_later hb11 c10_W_0
      clear c10_W_0
      have c11_W_1 := cell_later hb11 c10_W_1
      clear c10_W_1
      have c11_W_2 := cell_later hb11 c10_W_2
      clear c10_W_2
      have c11_W_3 := cell_later hb11 c10_W_3
      clear c10_W_3
      have c11_G_0 := cell_later hb11 c10_G_0
      clear c10_G_0
      have c11_G_1 := cell_later hb11 c10_G_1
      clear c10_G_1
      have c11_G_2 := cell_later hb11 c10_G_2
      clear c10_G_2
      have c11_G_3 := cell_later hb11 c10_G_3
      clear c10_G_3
      go_wp2_with fail
      refine (toDisk_k y0 _ (rdDisk_below (goodDisk_rd g0) BB11 (Nat.le_refl _)) hn0).mono ?_
      rintro e w12 ⟨v0, rfl, hdv0, H12v0, hkv0, hb12⟩
      have BB12 := BB11.trans (hb12.mono BB11.size)
      have sz12 := hb12.size
      have H12W := H11W.below hb12
      clear H11W
      have H12G := H11G.below hb12
      clear H11G
      have c12_a0_0 := cell_later hb12 c11_a0_0
      clear c11_a0_0
      have c12_a0_1 := cell_later hb12 c11_a0_1
      clear c11_a0_1
      have c12_a0_2 := cell_later hb12 c11_a0_2
      clear c11_a0_2
      have c12_a0_3 := cell_later hb12 c11_a0_3
      clear c11_a0_3
      have c12_W_0 := cell_later hb12 c11_W_0
      clear c11_W_0
      have c12_W_1 := cell_later hb12 c11_W_1
      clear c11_W_1
      have c12_W_2 := cell_later hb12 c11_W_2
      clear c11_W_2
      have c12_W_3 := cell_later hb12 c11_W_3
      clear c11_W_3
      have c12_G_0 := cell_later hb12 c11_G_0
      clear c11_G_0
      have c12_G_1 := cell_later hb12 c11_G_1
      clear c11_G_1
      have c12_G_2 := cell_later hb12 c11_G_2
      clear c11_G_2
      have c12_G_3 := cell_later hb12 c11_G_3
      clear c11_G_3
      have HDv0 := Lib.hid hdv0
      clear hdv0
      have okv0 := okDisk_dat okY0 HDv0.out
      go_wp2_with fail
      refine (diskBend_impl_k v0 (datDisk y0) HDv0.out s1 (by unfold maxLen; omega) x2 x3 _ (H12v0.good okv0) (by rw [hkv0]; exact hn0) g2 g3).mono ?_
      rintro e w13 ⟨K, rfl, hdK, H13K, hkK, hb13⟩
      have BB13 := BB12.trans (hb13.mono BB12.size)
      have sz13 := hb13.size
      have H13W := H12W.below hb13
      clear H12W
      have H13G := H12G.below hb13
      clear H12G
      have H13v0 := H12v0.below hb13
      clear H12v0
      have c13_a0_0 := cell_later hb13 c12_a0_0
      clear c12_a0_0
      have c13_a0_1 := cell_later hb13 c12_a0_1
      clear c12_a0_1
      have c13_a0_2 := cell_later hb13 c12_a0_2
      clear c12_a0_2
      have c13_a0_3 := cell_later hb13 c12_a0_3
      clear c12_a0_3
      have c13_W_0 := cell_later hb13 c12_W_0
      clear c12_W_0
      have c13_W_1 := cell_later hb13 c12_W_1
      clear c12_W_1
      have c13_W_2 := cell_later hb13 c12_W_2
      clear c12_W_2
      have c13_W_3 := cell_later hb13 c12_W_3
      clear c12_W_3
      have c13_G_0 := cell_later hb13 c12_G_0
      clear c12_G_0
      have c13_G_1 := cell_later hb13 c12_G_1
      clear c12_G_1
      have c13_G_2 := cell_later hb13 c12_G_2
      clear c12_G_2
      have c13_G_3 := cell_later hb13 c12_G_3
      clear c12_G_3
      have HDK := Lib.hid hdK
      clear hdK
      have hl14_a0_0 := World.block_lt_of_cell? _ _ c13_a0_0
      simp only at hl14_a0_0
      have hl14_W_0 := World.block_lt_of_cell? _ _ c13_W_0
      simp only at hl14_W_0
      have hl14_G_0 := World.block_lt_of_cell? _ _ c13_G_0
      simp only at hl14_G_0
      have ha14 := ((Below.refl w13.heap.size w13).alloc (Nat.le_refl _) (.cells #[.int .i64 K.room, .int .i64 K.fuse, .slice K.filesA K.filesN K.filesC, .slice K.waitA K.waitN K.waitC] 34))
      have BP14 := BB13.trans (ha14.mono BB13.size)
      go_wp2_with fail
      refine (eqDisk_k K W _ _ HDK.out HDW.out _ (H13K.below ha14).rd (H13W.below ha14).rd).mono ?_
      rintro e w14 ⟨rfl, hb14⟩
      have hx14 : Below w13.heap.size w13 w14 := ha14.trans (hb14.mono ha14.size)
      have szz14 : w13.heap.size + 1 ≤ w14.heap.size := by have := hb14.size; simp at this; omega
      obtain ⟨hc14, hf14⟩ := bcell hb14
      have c14_K_0 : w14.cell? ⟨w13.heap.size, 0, none⟩ = some (.int .i64 K.room) := by rw [hc14 _ _ (by simp)]; simp [go_sem]
      have c14_K_1 : w14.cell? ⟨w13.heap.size, 1, none⟩ = some (.int .i64 K.fuse) := by rw [hc14 _ _ (by simp)]; simp [go_sem]
      have c14_K_2 : w14.cell? ⟨w13.heap.size, 2, none⟩ = some (.slice K.filesA K.filesN K.filesC) := by rw [hc14 _ _ (by simp)]; simp [go_sem]
      have c14_K_3 : w14.cell? ⟨w13.heap.size, 3, none⟩ = some (.slice K.waitA K.waitN K.waitC) := by rw [hc14 _ _ (by simp)]; simp [go_sem]
      clear hc14 hf14
      have BB14 := BB13.trans (hx14.mono BB13.size)
      have sz14 := hx14.size
      have H14W := H13W.below hx14
      clear H13W
      have H14G := H13G.below hx14
      clear H13G
      have H14K := H13K.below hx14
      clear H13K
      have c14_a0_0 := cell_later hx14 c13_a0_0
      clear c13_a0_0
      have c14_a0_1 := cell_later hx14 c13_a0_1
      clear c13_a0_1
      have c14_a0_2 := cell_later hx14 c13_a0_2
      clear c13_a0_2
      have c14_a0_3 := cell_later hx14 c13_a0_3
      clear c13_a0_3
      have c14_W_0 := cell_later hx14 c13_W_0
      clear c13_W_0
      have c14_W_1 := cell_later hx14 c13_W_1
      clear c13_W_1
      have c14_W_2 := cell_later hx14 c13_W_2
      clear c13_W_2
      have c14_W_3 := cell_later hx14 c13_W_3
      clear c13_W_3
      have c14_G_0 := cell_later hx14 c13_G_0
      clear c13_G_0
      have c14_G_1 := cell_later hx14 c13_G_1
      clear c13_G_1
      have c14_G_2 := cell_later hx14 c13_G_2
      clear c13_G_2
      have c14_G_3 := cell_later hx14 c13_G_3
      clear c13_G_3
      go_wp2_with fail
      refine (heldDisk_k G 1 _ H14G (by omega) (by omega)).mono ?_
      rintro e w15 ⟨rfl, hb15⟩
      have BB15 := BB14.trans (hb15.mono BB14.size)
      have sz15 := hb15.size
      have H15W := H14W.below hb15
      clear H14W
      have H15G := H14G.below hb15
      clear H14G
      have c15_a0_0 := cell_later hb15 c14_a0_0
      clear c14_a0_0
      have c15_a0_1 := cell_later hb15 c14_a0_1
      clear c14_a0_1
      have c15_a0_2 := cell_later hb15 c14_a0_2
      clear c14_a0_2
      have c15_a0_3 := cell_later hb15 c14_a0_3
      clear c14_a0_3
      have c15_W_0 := cell_later hb15 c14_W_0
      clear c14_W_0
      have c15_W_1 := cell_later hb15 c14_W_1
      clear c14_W_1
      have c15_W_2 := cell_later hb15 c14_W_2
      clear c14_W_2
      have c15_W_3 := cell_later hb15 c14_W_3
      clear c14_W_3
      have c15_G_0 := cell_later hb15 c14_G_0
      clear c14_G_0
      have c15_G_1 := cell_later hb15 c14_G_1
      clear c14_G_1
      have c15_G_2 := cell_later hb15 c14_G_2
      clear c14_G_2
      have c15_G_3 := cell_later hb15 c14_G_3
      clear c14_G_3
      go_wp2
      go_ret
      exact ⟨rfl, BB15⟩
    · have BB0 := Below.refl w.heap.size w
      have okY0 := goodDisk_ok g0
      go_enter Try.func8, Try.ntmps8
      have HL0 := Lib.hid (leftB_no (left := 1048576) (n := bulkDisk y0) (by omega))
      have ha1 := ((Below.refl w.heap.size w).alloc (Nat.le_refl _) (.cells #[.int .i64 y0.room, .int .i64 y0.fuse, .slice y0.filesA y0.filesN y0.filesC, .slice y0.waitA y0.waitN y0.waitC] 43))
      have BP1 := BB0.trans (ha1.mono BB0.size)
      go_wp2_with fail
      refine (szDisk_k y0 _ _ (rdDisk_below (goodDisk_rd g0) BP1 (Nat.le_refl _)) (goodDisk_str g0) (by omega) (by omega)).mono ?_
      rintro e w1 ⟨rfl, hb1⟩
      rw [HL0.out]
      have hx1 : Below w.heap.size w w1 := ha1.trans (hb1.mono ha1.size)
      have szz1 : w.heap.size + 1 ≤ w1.heap.size := by have := hb1.size; simp at this; omega
      obtain ⟨hc1, hf1⟩ := bcell hb1
      have c1_a0_0 : w1.cell? ⟨w.heap.size, 0, none⟩ = some (.int .i64 y0.room) := by rw [hc1 _ _ (by simp)]; simp [go_sem]
      have c1_a0_1 : w1.cell? ⟨w.heap.size, 1, none⟩ = some (.int .i64 y0.fuse) := by rw [hc1 _ _ (by simp)]; simp [go_sem]
      have c1_a0_2 : w1.cell? ⟨w.heap.size, 2, none⟩ = some (.slice y0.filesA y0.filesN y0.filesC) := by rw [hc1 _ _ (by simp)]; simp [go_sem]
      have c1_a0_3 : w1.cell? ⟨w.heap.size, 3, none⟩ = some (.slice y0.waitA y0.waitN y0.waitC) := by rw [hc1 _ _ (by simp)]; simp [go_sem]
      clear hc1 hf1
      have BB1 := BB0.trans (hx1.mono BB0.size)
      have sz1 := hx1.size
      go_wp2
      go_ret
      exact ⟨rfl, BB1⟩
  · have BB0 := Below.refl w.heap.size w
    have ha1 := ((Below.refl w.heap.size w).alloc (Nat.le_refl _) (.cells #[.int .i64 y0.room, .int .i64 y0.fuse, .slice y0.filesA y0.filesN y0.filesC, .slice y0.waitA y0.waitN y0.waitC] 43))
    have BP1 := BB0.trans (ha1.mono BB0.size)
    have okY0 := goodDisk_ok g0
    go_enter Try.func8, Try.ntmps8
    go_wp2
    go_ret
    exact ⟨rfl, BP1⟩
end Go.Proofs.Ytoodlmhnemamhaa

/- The law FnExactDiskBend returns true for every input, and leaves its arguments as they were: no condition. The row's step; the walk stands in the text imported. -/
namespace Go.Proofs.Ytoodlmhnemamhaa.fnExactDiskBend
open Go.ChangeShapes Go.WideShapes Go.ChangeAt Go.RowKit Go.Deep
open Go.ChangeMaps (open_string shut_string)
set_option linter.unusedVariables false
set_option maxRecDepth 100000 in
theorem lifted (os : Os) (started : os.Started) (H : Type) (enc : TypeId × Value → H) :
    ReturnsInHanded {} Try.checked os 8 .any (Rows.fnExactDiskBendSpec.pre6 enc Try.prog Try.f8 Rows.fnExactDiskBendRow.domain false) (Rows.fnExactDiskBendSpec.post enc Try.prog Try.f8 false true false false) := by
  refine returnsInHanded_of_change (C := Try.checked) own started (by kernel_rfl) Try.func8
    (ChangeSpec.witness6 (enc := enc) (C := Try.checked) false ⟨#[], #[.agg #[.int .i64 0, .int .i64 0, .slice none 0 0, .slice none 0 0], .string ⟨#[]⟩, .int .i64 0, .int .i64 0], []⟩ 8 (by kernel_rfl) (by kernel_rfl) (by kernel_rfl) (by kernel_rfl)) ?_
  intro W base args ds gs before hval0 hW hcnd _
  have hval : ∀ (j : Nat) t v, Try.f8.params[j]? = some t → args[j]? = some v → Value.okWide Try.prog W .any base t v := hval0
  have hW' := hW
  obtain ⟨p, q, hA0, hV, rfl, hfz, hnd⟩ := hW
  have hA : DataW.TrodAll enc Try.prog W 0 (fun _ => true) true Try.f8.params.toList args.toList ds p := hA0
  rw [Try.params8] at hA hval
  obtain ⟨v0, vs0, d0, ds0, p0, q0, hargs, rfl, rfl, h0, r0⟩ := trodAll_cons hA
  obtain ⟨v1, vs1, d1, ds1, p1, q1, rfl, rfl, rfl, h1, r1⟩ := trodAll_cons r0
  obtain ⟨v2, vs2, d2, ds2, p2, q2, rfl, rfl, rfl, h2, r2⟩ := trodAll_cons r1
  obtain ⟨v3, vs3, d3, ds3, p3, q3, rfl, rfl, rfl, h3, r3⟩ := trodAll_cons r2
  obtain ⟨rfl, rfl, rfl⟩ := trodAll_nil r3
  obtain rfl : args = #[v0, v1, v2, v3] := by cases args; simp_all
  obtain ⟨rfl, rfl⟩ := trodVars_none hV
  have k0 := h0
  have lt0 : ∀ x ∈ p0, x.block < W.heap.size := by obtain ⟨m, hm⟩ := k0; exact DataW.trod_lt m _ _ _ hm
  obtain ⟨cs0, rfl, hsz0⟩ := okWide_struct Try.underlying43 (hval 0 43 v0 rfl rfl)
  obtain ⟨fu0, hf0⟩ := h0
  obtain ⟨y0, hc0, gd0⟩ := opDisk _ _ _ hf0
  obtain rfl : cs0 = #[.int .i64 y0.room, .int .i64 y0.fuse, .slice y0.filesA y0.filesN y0.filesC, .slice y0.waitA y0.waitN y0.waitC] := by apply Array.toList_inj.1; simpa [Value.cells, encDisk] using hc0
  have k1 := h1
  have lt1 : ∀ x ∈ p1, x.block < W.heap.size := by obtain ⟨m, hm⟩ := k1; exact DataW.trod_lt m _ _ _ hm
  obtain ⟨s1, e1, _, _, ws1⟩ := open_string Try.underlying9 (hval 1 9 v1 rfl rfl) h1
  subst e1
  have k2 := h2
  have lt2 : ∀ x ∈ p2, x.block < W.heap.size := by obtain ⟨m, hm⟩ := k2; exact DataW.trod_lt m _ _ _ hm
  obtain ⟨x2, e2, _, _, wx2⟩ := open_int Try.underlying3 (hval 2 3 v2 rfl rfl) h2
  subst e2
  have k3 := h3
  have lt3 : ∀ x ∈ p3, x.block < W.heap.size := by obtain ⟨m, hm⟩ := k3; exact DataW.trod_lt m _ _ _ hm
  obtain ⟨x3, e3, _, _, wx3⟩ := open_int Try.underlying3 (hval 3 3 v3 rfl rfl) h3
  subst e3
  clear hA0 hval0
  refine (walk_FnExactDiskBend y0 s1 x2 x3 W gd0 ws1 (in64_of wx2) (in64_of wx3)).mono fun e W' ⟨he, bel⟩ => ?_
  subst he
  exact ⟨_, rfl, _, _, _, [], _, [], hW', trodAll_mk1 (shut_bool Try.underlying4 _), (trodAll_cons_mk (Below.trod laidOut (by kernel_rfl) (of_decide_eq_true (by kernel_rfl)) k0 bel lt0) (trodAll_cons_mk (Below.trod laidOut (by kernel_rfl) (of_decide_eq_true (by kernel_rfl)) k1 bel lt1) (trodAll_cons_mk (Below.trod laidOut (by kernel_rfl) (of_decide_eq_true (by kernel_rfl)) k2 bel lt2) (trodAll_cons_mk (Below.trod laidOut (by kernel_rfl) (of_decide_eq_true (by kernel_rfl)) k3 bel lt3) trodAll_mk0)))), rfl, bel.frame _, fun h => by cases h⟩

theorem over : Rows.fnExactDiskBendRow.holds Try.pinned (OpenSpec.ofChange Rows.fnExactDiskBendSpec) :=
  OpenClaim.holds_of_wide 8 Try.f8 rfl rfl rfl rfl rfl rfl rfl ⟨rfl, rfl, rfl, rfl, rfl⟩ rfl rfl rfl rfl rfl (by kernel_rfl) Try.func8 (by kernel_rfl)
    (of_decide_eq_true (by kernel_rfl)) (by unfold Func.isWrapper; first | (rw [if_pos (by decide +kernel)]; kernel_rfl) | (rw [if_neg (by decide +kernel)]; exact ⟨rfl, rfl⟩))
    (fun os started H enc _ => lifted os started H enc)

theorem proved : Rows.FnExactDiskBendSaid := over
#print axioms proved
end Go.Proofs.Ytoodlmhnemamhaa.fnExactDiskBend

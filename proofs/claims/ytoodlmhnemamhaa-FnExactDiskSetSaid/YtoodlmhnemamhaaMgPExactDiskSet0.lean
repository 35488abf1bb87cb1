import Derived.Test.YtoodlmhnemamhaaCopyF
import Derived.Test.YtoodlmhnemamhaaDiskF
import Derived.Deep.RegionLaw
import Derived.Test.YtoodlmhnemamhaaDiskRd
import Derived.Test.YtoodlmhnemamhaaDiskMK
import Derived.Test.YtoodlmhnemamhaaDiskE
import Derived.Test.YtoodlmhnemamhaaKeep
import Derived.Test.YtoodlmhnemamhaaRow
import Derived.Test.YtoodlmhnemamhaaRoot
import Derived.Test.YtoodlmhnemamhaaOpen
import Derived.Test.YtoodlmhnemamhaaTyDisk
/- Copies of rows of operations: what a row that grows by a copy owns; copyOp of the program. -/
namespace Go.Proofs.Ytoodlmhnemamhaa
open Go.RowKit
theorem OwnFsOpS.grow {lo hi : Nat} {w : World} {y : Row FsOpR} (h : OwnFsOpS lo hi w y) {hi' : Nat} (hl : hi ≤ hi') (ht : hi' ≤ w.heap.size) : OwnFsOpS lo hi' w y := ⟨h.nest.grow hl ht⟩
theorem OwnFsOpS.nil (lo : Nat) (w : World) : OwnFsOpS lo w.heap.size w ⟨none, 0, 0, []⟩ := ⟨OwnN.nil _ _ _ _ _ _ _ _ _⟩
theorem OwnFileS.nil (lo : Nat) (w : World) : OwnFileS lo w.heap.size w ⟨none, 0, 0, []⟩ := ⟨OwnN.nil _ _ _ _ _ _ _ _ _⟩
theorem OwnFsOpS.lit (w : World) (lo : Nat) (hlo : lo ≤ w.heap.size) : OwnFsOpS lo (w.heap.size + 1) (w.alloc (.cells #[] 27)) ⟨some ⟨w.heap.size, 0, none⟩, 0, 0, []⟩ :=
  ⟨⟨⟨rfl, World.ownsRow_lit w #[] 0 hlo (by unfold maxLen; omega) (by simp), fun g hg => by cases hg; exact Nat.lt_succ_self _, by simp, Nat.zero_le _⟩, fun i hi => absurd hi (by simp), fun i hi => absurd hi (by simp), fun i i' hi => absurd hi (by simp)⟩⟩
theorem OwnFsOpS.snoc {lo H B : Nat} {W0 w2 : World} {y : Row FsOpR} (h : OwnFsOpS lo H W0 y) (hHB : H ≤ B) (hlB : lo ≤ B) (x : FsOpR) (g2 C2 : Nat)
    (hin : OwnS (encI .u8) 1 5 B W0.heap.size W0 x.dataA x.dataN x.dataC x.data)
    (ho2 : w2.ownsRow lo 27 4 (.slice (some ⟨g2, 0, none⟩) (y.n + 1) C2) (y.n + 1) (y.l.flatMap encFsOp ++ encFsOp x)) (hg2 : W0.grownBy w2 (Value.slice y.a y.n y.c).ownBlock)
    (hnew : (Value.slice y.a y.n y.c).ownBlock = some g2 ∨ g2 = W0.heap.size) (hsm : y.n < 100000000) : OwnFsOpS lo w2.heap.size w2 ⟨some ⟨g2, 0, none⟩, y.n + 1, C2, y.l ++ [x]⟩ := by
  have hyl := h.nest.row.len
  have htop := h.nest.row.top
  have hg := h.grow htop (Nat.le_refl _)
  refine ⟨hg.nest.snoc x (some ⟨g2, 0, none⟩) C2 (OwnS.of (by rw [List.flatMap_append]; simpa using ho2) (by simp; omega) (show y.n + 1 ≤ _ by omega)) (hin.lo_le hlB) hg2 ?_ ?_ ?_ hg2.size (Nat.le_refl _)⟩
  · rcases hnew with e | e
    · exact Or.inl (by rw [show blkR y = _ from e]; rfl)
    · refine Or.inr (fun q hq => ?_)
      have e2 : g2 = q := by simpa [Value.ownBlock] using hq
      omega
  · intro q hq e
    have h1 := (World.ownsRow.lt hin.own q hq).1
    have h2 := h.nest.row.lt q e
    omega
  · intro i hi0 q hq e
    have h1 := (World.ownsRow.lt hin.own q e).1
    have h2 := (h.nest.inner i hi0).lt q hq
    omega
theorem one_fsOp (x : FsOpR) : ∀ u ∈ encFsOp x, u.oneCell' = true := by
  intro u hu
  simp only [encFsOp, List.mem_cons, List.not_mem_nil, or_false] at hu
  rcases hu with rfl | rfl | rfl | rfl <;> rfl
theorem news_four (w : World) (x y z v : Value) (t : TypeId) : ∀ (j : Nat) (u : Value), [x, y, z, v][j]? = some u → (w.alloc (.cells #[x, y, z, v] t)).cell? ((⟨w.heap.size, 0, none⟩ : Addr).add j) = some u := by
  intro j u hu
  match j, hu with
  | 0, hu => simp at hu; subst hu; simp [go_sem]
  | 1, hu => simp at hu; subst hu; simp [go_sem]
  | 2, hu => simp at hu; subst hu; simp [go_sem]
  | 3, hu => simp at hu; subst hu; simp [go_sem]
  | j + 4, hu => simp at hu
/-- An operation with a row of data of the call's own. -/
def RetOpO (O : OD) (n : Nat) (w : World) (en : Ending) (w' : World) : Prop := ∃ x : FsOpR, en = .returned (.agg #[.int .i64 x.kind, .string x.name, .string x.dst, .slice x.dataA x.dataN x.dataC]) ∧ datFsOp x = O ∧ x.dataN = n ∧ OwnS (encI .u8) 1 5 w.heap.size w'.heap.size w' x.dataA x.dataN x.dataC x.data ∧ Below w.heap.size w w'
set_option maxHeartbeats 1600000 in
theorem copyOp_any (x : FsOpR) (w : World) (h : Rd (encI .u8) 1 w x.dataA x.dataN x.dataC x.data) (hn : x.dataN ≤ 100000000) :
    Calls Try.prog 60 #[.agg #[.int .i64 x.kind, .string x.name, .string x.dst, .slice x.dataA x.dataN x.dataC]] w fun e w' => RetOpO (datFsOp x) x.dataN w e w' := by
  obtain ⟨ok, onm, odst, oA, oN, oC, oL⟩ := x
  simp only at h hn ⊢
  have hb0 := ((Below.refl w.heap.size w).alloc (Nat.le_refl _) (.cells #[.int .i64 ok, .string onm, .string odst, .slice oA oN oC] 27)).alloc (by simp) (.cells #[.int .i64 0, .string ⟨#[]⟩, .string ⟨#[]⟩, .slice none 0 0] 27)
  have HR := Lib.hid (h.below hb0 (Nat.le_refl _))
  clear h
  go_enter Try.func60, Try.ntmps60
  go_wp2_with fail
  refine (copyBytes_any oA oN oC oL _ HR.out hn).mono ?_
  rintro e w1 ⟨A1, N1, C1, rfl, ho, hb1⟩
  obtain ⟨hc, hf⟩ := bcell hb1
  have hz1 : w.heap.size + 2 ≤ w1.heap.size := by have := hb1.size; simp at this; omega
  have x0 : w1.cell? ⟨w.heap.size, 0, none⟩ = some (.int .i64 ok) := by rw [hc _ _ (by simp; omega)]; simp [go_sem]
  have x1 : w1.cell? ⟨w.heap.size, 1, none⟩ = some (.string onm) := by rw [hc _ _ (by simp; omega)]; simp [go_sem]
  have x2 : w1.cell? ⟨w.heap.size, 2, none⟩ = some (.string odst) := by rw [hc _ _ (by simp; omega)]; simp [go_sem]
  have x3 : w1.cell? ⟨w.heap.size, 3, none⟩ = some (.slice oA oN oC) := by rw [hc _ _ (by simp; omega)]; simp [go_sem]
  have r0 : w1.cell? ⟨w.heap.size + 1, 0, none⟩ = some (.int .i64 0) := by rw [hc _ _ (by simp)]; simp [go_sem]
  have r1 : w1.cell? ⟨w.heap.size + 1, 1, none⟩ = some (.string ⟨#[]⟩) := by rw [hc _ _ (by simp)]; simp [go_sem]
  have r2 : w1.cell? ⟨w.heap.size + 1, 2, none⟩ = some (.string ⟨#[]⟩) := by rw [hc _ _ (by simp)]; simp [go_sem]
  have r3 : w1.cell? ⟨w.heap.size + 1, 3, none⟩ = some (.slice none 0 0) := by rw [hc _ _ (by simp)]; simp [go_sem]
  have f3 : w1.frozen? ⟨w.heap.size, 3, none⟩ = false := by rw [hf _ _ (by simp; omega)]; simp [go_sem]
  have q0 : w1.frozen? ⟨w.heap.size + 1, 0, none⟩ = false := by rw [hf _ _ (by simp)]; simp [go_sem]
  have q1 : w1.frozen? ⟨w.heap.size + 1, 1, none⟩ = false := by rw [hf _ _ (by simp)]; simp [go_sem]
  have q2 : w1.frozen? ⟨w.heap.size + 1, 2, none⟩ = false := by rw [hf _ _ (by simp)]; simp [go_sem]
  have q3 : w1.frozen? ⟨w.heap.size + 1, 3, none⟩ = false := by rw [hf _ _ (by simp)]; simp [go_sem]
  have BB1 := hb0.trans (hb1.mono hb0.size)
  clear hc hf
  go_wp2
  refine bodyPost_ret (v := .agg #[.int .i64 ok, .string onm, .string odst, .slice A1 N1 C1]) (by simp [results, Try.results60, go_sem, r0, r1, r2, r3]) rfl ?_
  have hw2 := (Win.set (lo := w.heap.size) (hi := w.heap.size + 2) w1 w.heap.size 3 (.slice A1 N1 C1) (by omega) (by omega)).trans ((((Win.set _ (w.heap.size + 1) 0 (.int .i64 ok) (by omega) (by omega)).trans (Win.set _ (w.heap.size + 1) 1 (.string onm) (by omega) (by omega))).trans (Win.set _ (w.heap.size + 1) 2 (.string odst) (by omega) (by omega))).trans (Win.set _ (w.heap.size + 1) 3 (.slice A1 N1 C1) (by omega) (by omega)))
  have ho2 := (ho.toS.lo_le (lo' := w.heap.size + 2) (by simp)).win hw2 (Or.inl (Nat.le_refl _))
  have hnn : N1 = oN := by have e1 := ho.toS.len; have e2 := HR.out.len; omega
  exact ⟨⟨ok, onm, odst, A1, N1, C1, oL⟩, rfl, rfl, hnn, (ho2.lo_le (by omega)).grow (by simp only [size_set]; exact Nat.le_refl _) (Nat.le_refl _), BB1.trans (hw2.below (Nat.le_refl _) BB1.size)⟩
end Go.Proofs.Ytoodlmhnemamhaa

/- l02Copy of the reference. -/
namespace Go.Proofs.Ytoodlmhnemamhaa
open Go.RowKit
/-- A disk of a call's own. -/
def RetDO (D : DskD) (w : World) (en : Ending) (w' : World) : Prop := ∃ y : DiskR, en = .returned (.agg #[.int .i64 y.room, .int .i64 y.fuse, .slice y.filesA y.filesN y.filesC, .slice y.waitA y.waitN y.waitC]) ∧ datDisk y = D ∧ OwnDisk w.heap.size w'.heap.size w' y ∧ Below w.heap.size w w'
set_option maxRecDepth 100000 in
set_option maxHeartbeats 6400000 in
theorem l02Copy_any (y : DiskR) (w : World) (g : rdDisk w y) (hn : bulkDisk y ≤ 1048576) (n12 : y.filesN ≤ 10000000) (n60 : y.waitN ≤ 10000000) :
    Calls Try.prog 57 #[.agg #[.int .i64 y.room, .int .i64 y.fuse, .slice y.filesA y.filesN y.filesC, .slice y.waitA y.waitN y.waitC]] w fun e w' => RetDO (datDisk y) w e w' := by
  obtain ⟨room, fuse, fA, fN, fC, fs, oA, oN, oC, os⟩ := y
  obtain ⟨gf, go, goi⟩ := g
  unfold bulkDisk at hn
  simp only [fR, oR] at gf go goi hn n12 n60 ⊢
  have HSB : Hid (sizeF (datFileS ⟨fA, fN, fC, fs⟩) ≤ 10000000) := Lib.hid (by have := size_bulk (w := w) (y := ⟨fA, fN, fC, fs⟩) gf; omega)
  have HOL : Hid (os.length = oN) := Lib.hid go.len
  have HDN : Hid (∀ k, k < os.length → (atFsOp os k).dataN ≤ 1048576) := Lib.hid (fun k hk => by
    have h1 := preFsOp_top os k hk
    have h2 : bulkFsOpS ⟨oA, oN, oC, os⟩ = oN + preFsOp os os.length := rfl
    have h3 : (atFsOp os k).dataN ≤ bulkFsOp (atFsOp os k) := by unfold bulkFsOp; omega
    omega)
  have om := go.max
  have ol := go.le
  unfold maxLen at om
  have hb0 := ((Below.refl w.heap.size w).alloc (Nat.le_refl _) (.cells #[.int .i64 room, .int .i64 fuse, .slice fA fN fC, .slice oA oN oC] 34)).alloc (by simp) (.cells #[.int .i64 0, .int .i64 0, .slice none 0 0, .slice none 0 0] 34)
  have HGO : Hid (∀ x ∈ os, rdFsOp w x) := Lib.hid goi
  have HF0 := Lib.hid (rdFileS_below gf hb0 (Nat.le_refl _))
  obtain ⟨i0, hi, hz0, hz1, hz2⟩ := info_parts infoFsOp
  obtain ⟨i1, ji, jz0, jz1, jz2⟩ := info_parts infoByte
  have HDT : Hid (datDisk ⟨room, fuse, fA, fN, fC, fs, oA, oN, oC, os⟩ = (room, fuse, datFileS ⟨fA, fN, fC, fs⟩, (os.take oN).map datFsOp)) := Lib.hid (by rw [← HOL.out, List.take_length]; rfl)
  rw [HDT.out]
  clear gf goi hn HDT
  go_enter Try.func57, Try.ntmps57
  go_wp2_with fail
  refine (l02Files_any ⟨fA, fN, fC, fs⟩ _ HF0.out n12 HSB.out).mono ?_
  rintro e w1 ⟨f, rfl, hdf, of, hb1⟩
  obtain ⟨hc, hf⟩ := bcell hb1
  have hs1 : w.heap.size + 2 ≤ w1.heap.size := by have := hb1.size; simp at this; omega
  have BB1 := hb0.trans (hb1.mono hb0.size)
  have x0 : w1.cell? ⟨w.heap.size, 0, none⟩ = some (.int .i64 room) := by rw [hc _ _ (by simp; omega)]; simp [go_sem]
  have x1 : w1.cell? ⟨w.heap.size, 1, none⟩ = some (.int .i64 fuse) := by rw [hc _ _ (by simp; omega)]; simp [go_sem]
  have x2 : w1.cell? ⟨w.heap.size, 2, none⟩ = some (.slice fA fN fC) := by rw [hc _ _ (by simp; omega)]; simp [go_sem]
  have x3 : w1.cell? ⟨w.heap.size, 3, none⟩ = some (.slice oA oN oC) := by rw [hc _ _ (by simp; omega)]; simp [go_sem]
  have r0 : w1.cell? ⟨w.heap.size + 1, 0, none⟩ = some (.int .i64 0) := by rw [hc _ _ (by simp)]; simp [go_sem]
  have r1 : w1.cell? ⟨w.heap.size + 1, 1, none⟩ = some (.int .i64 0) := by rw [hc _ _ (by simp)]; simp [go_sem]
  have r2 : w1.cell? ⟨w.heap.size + 1, 2, none⟩ = some (.slice none 0 0) := by rw [hc _ _ (by simp)]; simp [go_sem]
  have r3 : w1.cell? ⟨w.heap.size + 1, 3, none⟩ = some (.slice none 0 0) := by rw [hc _ _ (by simp)]; simp [go_sem]
  have f2 : w1.frozen? ⟨w.heap.size, 2, none⟩ = false := by rw [hf _ _ (by simp; omega)]; simp [go_sem]
  have f3 : w1.frozen? ⟨w.heap.size, 3, none⟩ = false := by rw [hf _ _ (by simp; omega)]; simp [go_sem]
  have q0 : w1.frozen? ⟨w.heap.size + 1, 0, none⟩ = false := by rw [hf _ _ (by simp)]; simp [go_sem]
  have q1 : w1.frozen? ⟨w.heap.size + 1, 1, none⟩ = false := by rw [hf _ _ (by simp)]; simp [go_sem]
  have q2 : w1.frozen? ⟨w.heap.size + 1, 2, none⟩ = false := by rw [hf _ _ (by simp)]; simp [go_sem]
  have q3 : w1.frozen? ⟨w.heap.size + 1, 3, none⟩ = false := by rw [hf _ _ (by simp)]; simp [go_sem]
  clear hc hf
  have hw1 := Win.set (lo := w.heap.size) (hi := w.heap.size + 2) w1 w.heap.size 2 (.slice f.a f.n f.c) (by omega) (by omega)
  have BW1 := BB1.trans (hw1.below (Nat.le_refl _) BB1.size)
  have HOF := Lib.hid (((of.lo_le (lo' := w.heap.size + 2) (by simp)).win hw1 (Or.inl (Nat.le_refl _))))
  have HDF := Lib.hid hdf
  have y0 : (w1.setCell ⟨w.heap.size, 2, none⟩ (.slice f.a f.n f.c)).cell? ⟨w.heap.size, 0, none⟩ = some (.int .i64 room) := by rw [World.cell?_setCell_other _ _ _ _ (by simp)]; exact x0
  have y1 : (w1.setCell ⟨w.heap.size, 2, none⟩ (.slice f.a f.n f.c)).cell? ⟨w.heap.size, 1, none⟩ = some (.int .i64 fuse) := by rw [World.cell?_setCell_other _ _ _ _ (by simp)]; exact x1
  have y2 : (w1.setCell ⟨w.heap.size, 2, none⟩ (.slice f.a f.n f.c)).cell? ⟨w.heap.size, 2, none⟩ = some (.slice f.a f.n f.c) := World.cell?_setCell_same _ _ _ x2
  have y3 : (w1.setCell ⟨w.heap.size, 2, none⟩ (.slice f.a f.n f.c)).cell? ⟨w.heap.size, 3, none⟩ = some (.slice oA oN oC) := by rw [World.cell?_setCell_other _ _ _ _ (by simp)]; exact x3
  have z0 : (w1.setCell ⟨w.heap.size, 2, none⟩ (.slice f.a f.n f.c)).cell? ⟨w.heap.size + 1, 0, none⟩ = some (.int .i64 0) := by rw [World.cell?_setCell_other _ _ _ _ (by simp)]; exact r0
  have z1 : (w1.setCell ⟨w.heap.size, 2, none⟩ (.slice f.a f.n f.c)).cell? ⟨w.heap.size + 1, 1, none⟩ = some (.int .i64 0) := by rw [World.cell?_setCell_other _ _ _ _ (by simp)]; exact r1
  have z2 : (w1.setCell ⟨w.heap.size, 2, none⟩ (.slice f.a f.n f.c)).cell? ⟨w.heap.size + 1, 2, none⟩ = some (.slice none 0 0) := by rw [World.cell?_setCell_other _ _ _ _ (by simp)]; exact r2
  have z3 : (w1.setCell ⟨w.heap.size, 2, none⟩ (.slice f.a f.n f.c)).cell? ⟨w.heap.size + 1, 3, none⟩ = some (.slice none 0 0) := by rw [World.cell?_setCell_other _ _ _ _ (by simp)]; exact r3
  have sf3 : (w1.setCell ⟨w.heap.size, 2, none⟩ (.slice f.a f.n f.c)).frozen? ⟨w.heap.size, 3, none⟩ = false := by rw [World.frozen?_setCell]; exact f3
  have sq0 : (w1.setCell ⟨w.heap.size, 2, none⟩ (.slice f.a f.n f.c)).frozen? ⟨w.heap.size + 1, 0, none⟩ = false := by rw [World.frozen?_setCell]; exact q0
  have sq1 : (w1.setCell ⟨w.heap.size, 2, none⟩ (.slice f.a f.n f.c)).frozen? ⟨w.heap.size + 1, 1, none⟩ = false := by rw [World.frozen?_setCell]; exact q1
  have sq2 : (w1.setCell ⟨w.heap.size, 2, none⟩ (.slice f.a f.n f.c)).frozen? ⟨w.heap.size + 1, 2, none⟩ = false := by rw [World.frozen?_setCell]; exact q2
  have sq3 : (w1.setCell ⟨w.heap.size, 2, none⟩ (.slice f.a f.n f.c)).frozen? ⟨w.heap.size + 1, 3, none⟩ = false := by rw [World.frozen?_setCell]; exact q3
  have hs2 : w.heap.size + 2 ≤ (w1.setCell ⟨w.heap.size, 2, none⟩ (.slice f.a f.n f.c)).heap.size := by rw [size_set]; exact hs1
  have hot : (oN : Int) ≤ (oC : Int) := by omega
  have y3a := cell_later ((Below.refl _ _).alloc (Nat.le_refl _) (.cells #[] 27)) y3
  go_wp2_with fail
  clear x0 x1 x2 x3 r0 r1 r2 r3 f2 f3 q0 q1 q2 q3
  have hsz : (w1.setCell ⟨w.heap.size, 2, none⟩ (.slice f.a f.n f.c)).heap.size = w1.heap.size := size_set _ _ _
  generalize w1.setCell ⟨w.heap.size, 2, none⟩ (.slice f.a f.n f.c) = W1 at *
  go_loopw [3, 14] (fun o i wr => ∃ (k : Nat) (q : Row FsOpR), k ≤ oN ∧ o = .slice q.a q.n q.c ∧ i = .int .i64 k ∧ q.n = k ∧ Hid (OwnFsOpS W1.heap.size wr.heap.size wr q) ∧ Hid (datFsOpS q = (os.take k).map datFsOp) ∧ Below W1.heap.size W1 wr) (fun _ i _ => oN - (intOf i).toNat)
  case atStart => exact ⟨0, ⟨some ⟨w1.heap.size, 0, none⟩, 0, 0, []⟩, Nat.zero_le _, rfl, rfl, rfl, Lib.hid (by rw [← hsz]; exact (OwnFsOpS.lit W1 _ (Nat.le_refl _)).grow (by simp) (Nat.le_refl _)), Lib.hid rfl, (Below.refl _ _).alloc (Nat.le_refl _) _⟩
  case round =>
    obtain ⟨k, q, hk, rfl, rfl, hqk, HO, HQ, hb⟩ := hrel
    obtain ⟨qA, qN, qC, qs⟩ := q
    simp only at hqk
    subst hqk
    have BBr := BW1.trans (hb.mono BW1.size)
    by_cases hlt : qN < oN
    · obtain ⟨b, off, rfl, hbl, hcc⟩ := go.rowFsOp (by omega)
      obtain ⟨k0, k1, k2, k3⟩ := hcc qN hlt
      have cb : ∀ o, wr.cell? ⟨b, o, none⟩ = w.cell? ⟨b, o, none⟩ := fun o => BBr.cell (p := ⟨b, o, none⟩) hbl
      rw [← cb] at k0 k1 k2 k3
      have hi1 : (qN : Int) < (oN : Int) := by omega
      have hkx : qN < os.length := by rw [HOL.out]; exact hlt
      have hxn : (atFsOp os qN).dataN ≤ 1048576 := HDN.out _ hkx
      have HXR : Hid (rdFsOp wr (atFsOp os qN)) := Lib.hid (by rw [atFsOp_eq os qN hkx]; exact rdFsOp_below (HGO.out _ (List.getElem_mem hkx)) BBr (Nat.le_refl _))
      have HST : Hid ((os.take (qN + 1)).map datFsOp = (os.take qN).map datFsOp ++ [datFsOp (atFsOp os qN)]) := Lib.hid (by rw [List.take_succ_eq_append_getElem hkx, List.map_append, atFsOp_eq os qN hkx]; rfl)
      clear hcc cb hkx
      generalize atFsOp os qN = x at *
      obtain ⟨ok, onm, odst, xA, xN, xC, xL⟩ := x
      try simp only at k0 k1 k2 k3 hxn
      have hal := (Below.refl wr.heap.size wr).alloc (Nat.le_refl _) (.cells #[.int .i64 ok, .string onm, .string odst, .slice xA xN xC] 27)
      have E0 : (wr.alloc (.cells #[.int .i64 ok, .string onm, .string odst, .slice xA xN xC] 27)).cell? ⟨wr.heap.size, 0, none⟩ = some (.int .i64 ok) := by simp [go_sem]
      have E1 : (wr.alloc (.cells #[.int .i64 ok, .string onm, .string odst, .slice xA xN xC] 27)).cell? ⟨wr.heap.size, 1, none⟩ = some (.string onm) := by simp [go_sem]
      have E2 : (wr.alloc (.cells #[.int .i64 ok, .string onm, .string odst, .slice xA xN xC] 27)).cell? ⟨wr.heap.size, 2, none⟩ = some (.string odst) := by simp [go_sem]
      have E3 : (wr.alloc (.cells #[.int .i64 ok, .string onm, .string odst, .slice xA xN xC] 27)).cell? ⟨wr.heap.size, 3, none⟩ = some (.slice xA xN xC) := by simp [go_sem]
      have F3 : (wr.alloc (.cells #[.int .i64 ok, .string onm, .string odst, .slice xA xN xC] 27)).frozen? ⟨wr.heap.size, 3, none⟩ = false := by simp [go_sem]
      have HOW := Lib.hid (HO.out.below hal)
      have HXF := Lib.hid (rdFsOp_below HXR.out hal (Nat.le_refl _))
      have hwF : (wr.alloc (.cells #[.int .i64 ok, .string onm, .string odst, .slice xA xN xC] 27)).heap.size = wr.heap.size + 1 := by simp
      have hbF := hb.trans (hal.mono hb.size)
      have G3 := cell_later ((Below.refl _ _).alloc (Nat.le_refl _) (.cells #[] 5)) E3
      have HLIT : Hid (((wr.alloc (.cells #[.int .i64 ok, .string onm, .string odst, .slice xA xN xC] 27)).alloc (.cells #[] 5)).ownsRow (wr.heap.size + 1) 5 1 (.slice (some ⟨wr.heap.size + 1, 0, none⟩) 0 0) 0 (([] : List Int).map (.int .u8))) := Lib.hid (by rw [← hwF]; exact World.ownsRow_lit _ #[] 0 (Nat.le_refl _) (by unfold maxLen; omega) (by simp))
      have HXT := Lib.hid (Rd.below HXF.out ((Below.refl _ _).alloc (Nat.le_refl _) (.cells #[] 5)) (Nat.le_refl _))
      have hxl : xL.length = xN := HXF.out.len
      have hxm := HXF.out.le
      have hxm2 := HXF.out.max
      unfold maxLen at hxm2
      have hlen0 : ([] ++ xL.map (Value.int .u8)).length = 0 + xN := by simp [hxl]
      go_wp2_with (at_builtin; refine app_any rfl _ _ 22 rfl (wr.heap.size + 1) 5 Try.underlying22 ji jz0 jz1 jz2 rfl (by decide) (some ⟨wr.heap.size + 1, 0, none⟩) 0 0 [] rfl HLIT.out xA xN xC (xL.map (.int .u8)) rfl ?c1 HXT.out.news HXT.out.none (int_bytes xL) ?c2 ?c3 (by simp) ?_)
      case c2 => unfold maxLen; omega
      case c3 => omega
      intro A4 C4 w4 ho2 hb4
      have ho3 : w4.ownsRow (wr.heap.size + 1) 5 1 (.slice A4 xN C4) xN (xL.map (.int .u8)) := by simpa using ho2
      obtain ⟨hc4, hf4⟩ := bcell hb4
      have hz4 : wr.heap.size + 2 ≤ w4.heap.size := by have := hb4.size; simpa using this
      have e0 : w4.cell? ⟨wr.heap.size, 0, none⟩ = some (.int .i64 ok) := by rw [hc4 _ _ (Nat.lt_succ_self _)]; exact cell_later ((Below.refl _ _).alloc (Nat.le_refl _) _) E0
      have e1 : w4.cell? ⟨wr.heap.size, 1, none⟩ = some (.string onm) := by rw [hc4 _ _ (Nat.lt_succ_self _)]; exact cell_later ((Below.refl _ _).alloc (Nat.le_refl _) _) E1
      have e2 : w4.cell? ⟨wr.heap.size, 2, none⟩ = some (.string odst) := by rw [hc4 _ _ (Nat.lt_succ_self _)]; exact cell_later ((Below.refl _ _).alloc (Nat.le_refl _) _) E2
      have e3 : w4.cell? ⟨wr.heap.size, 3, none⟩ = some (.slice xA xN xC) := by rw [hc4 _ _ (Nat.lt_succ_self _)]; exact G3
      have f3 : w4.frozen? ⟨wr.heap.size, 3, none⟩ = false := by rw [hf4 _ _ (Nat.lt_succ_self _)]; simp [go_sem]
      have s0 : (w4.setCell ⟨wr.heap.size, 3, none⟩ (.slice A4 xN C4)).cell? ⟨wr.heap.size, 0, none⟩ = some (.int .i64 ok) := by rw [World.cell?_setCell_other _ _ _ _ (by simp)]; exact e0
      have s1 : (w4.setCell ⟨wr.heap.size, 3, none⟩ (.slice A4 xN C4)).cell? ⟨wr.heap.size, 1, none⟩ = some (.string onm) := by rw [World.cell?_setCell_other _ _ _ _ (by simp)]; exact e1
      have s2 : (w4.setCell ⟨wr.heap.size, 3, none⟩ (.slice A4 xN C4)).cell? ⟨wr.heap.size, 2, none⟩ = some (.string odst) := by rw [World.cell?_setCell_other _ _ _ _ (by simp)]; exact e2
      have s3 : (w4.setCell ⟨wr.heap.size, 3, none⟩ (.slice A4 xN C4)).cell? ⟨wr.heap.size, 3, none⟩ = some (.slice A4 xN C4) := World.cell?_setCell_same _ _ _ e3
      have hw4 := Win.set (lo := wr.heap.size) (hi := wr.heap.size + 1) w4 wr.heap.size 3 (.slice A4 xN C4) (by omega) (by omega)
      have hin4 : OwnS (encI .u8) 1 5 (wr.heap.size + 1) w4.heap.size w4 A4 xN C4 xL := OwnS.of (by rw [flat_encI]; exact ho3) hxl (by omega)
      have hin5 := hin4.win hw4 (Or.inl (Nat.le_refl _))
      have hsz5 : (w4.setCell ⟨wr.heap.size, 3, none⟩ (.slice A4 xN C4)).heap.size = w4.heap.size := size_set _ _ _
      have hbW5 : Below wr.heap.size wr (w4.setCell ⟨wr.heap.size, 3, none⟩ (.slice A4 xN C4)) := ((hal.trans ((Below.refl _ _).alloc (by simp) (.cells #[] 5))).trans (hb4.mono (Nat.le_succ _))).trans (hw4.below (Nat.le_refl _) (by omega))
      clear hc4 hf4 ho2 ho3 hin4 hw4
      have hb6 : Below wr.heap.size wr ((w4.setCell ⟨wr.heap.size, 3, none⟩ (.slice A4 xN C4)).alloc (.cells #[.int .i64 ok, .string onm, .string odst, .slice A4 xN C4] 27)) := hbW5.alloc (by rw [hsz5]; omega) _
      have HO6 := Lib.hid (HO.out.below hb6)
      have hnews := news_four (w4.setCell ⟨wr.heap.size, 3, none⟩ (.slice A4 xN C4)) (.int .i64 ok) (.string onm) (.string odst) (.slice A4 xN C4) 27
      rw [hsz5] at hnews
      have hin6 : OwnS (encI .u8) 1 5 (wr.heap.size + 1) ((w4.setCell ⟨wr.heap.size, 3, none⟩ (.slice A4 xN C4)).alloc (.cells #[.int .i64 ok, .string onm, .string odst, .slice A4 xN C4] 27)).heap.size ((w4.setCell ⟨wr.heap.size, 3, none⟩ (.slice A4 xN C4)).alloc (.cells #[.int .i64 ok, .string onm, .string odst, .slice A4 xN C4] 27)) A4 xN C4 xL := (hin5.below ((Below.refl _ _).alloc (Nat.le_refl _) _)).grow (by simp [hsz5]) (Nat.le_refl _)
      clear hbW5 hin5
      go_wp2_with (at_builtin; refine wpList_append_lies _ (by rfl) _ _ _ (by rfl) W1.heap.size 27 i0 _ 4 64 Try.underlying32 hi hz0 hz1 hz2 rfl (by decide) (.slice qA qN qC) qN (qs.flatMap encFsOp) (by rfl) HO6.out.nest.row.own ⟨w4.heap.size, 0, none⟩ 1 1 [.int .i64 ok, .string onm, .string odst, .slice A4 xN C4] (by rfl) (by rfl) hnews (one_fsOp ⟨ok, onm, odst, A4, xN, C4, []⟩) (by decide) (by unfold maxLen; omega) (by omega) (Nat.le_trans hb.size hb6.size) _ rfl ?_)
      intro g9 C9 w9 ho9 hg9 hor9 hlt9
      rw [← hsz] at ho9
      rw [show w4.heap.size + 1 = ((w4.setCell ⟨wr.heap.size, 3, none⟩ (.slice A4 xN C4)).alloc (.cells #[.int .i64 ok, .string onm, .string odst, .slice A4 xN C4] 27)).heap.size from by simp [hsz5]] at hor9
      have HN := Lib.hid (OwnFsOpS.snoc HO6.out (Nat.le_succ _) (Nat.le_trans hb.size (Nat.le_succ _)) ⟨ok, onm, odst, A4, xN, C4, xL⟩ g9 C9 hin6 ho9 hg9 hor9 (by show qN < 100000000; omega))
      have HQ2 : Hid (datFsOpS ⟨some ⟨g9, 0, none⟩, qN + 1, C9, qs ++ [⟨ok, onm, odst, A4, xN, C4, xL⟩]⟩ = (os.take (qN + 1)).map datFsOp) := Lib.hid (by
        rw [HST.out, ← HQ.out]
        unfold datFsOpS
        rw [List.map_append]
        rfl)
      have hb9 : Below W1.heap.size W1 w9 := (hb.trans (hb6.mono hb.size)).trans (below_grown hg9 (Nat.le_trans hb.size hb6.size) (fun k hk => (World.ownsRow.lt HO6.out.nest.row.own k hk).1))
      clear ho9 hg9 hor9 hin6 hb6 HO6 hnews
      go_wp2
      go_roundw
      case rel => exact ⟨qN + 1, ⟨some ⟨g9, 0, none⟩, qN + 1, C9, qs ++ [⟨ok, onm, odst, A4, xN, C4, xL⟩]⟩, by omega, rfl, by go_num, rfl, HN, HQ2, hb9⟩
      case measure => simp [intOf]; omega
    · obtain rfl : qN = oN := by omega
      have t0 := cell_later hb y0
      have t1 := cell_later hb y1
      have t2 := cell_later hb y2
      have t3 := cell_later hb y3
      have c0 := cell_later hb z0
      have c1 := cell_later hb z1
      have c2 := cell_later hb z2
      have c3 := cell_later hb z3
      obtain ⟨_, hf⟩ := bcell hb
      have g3 : wr.frozen? ⟨w.heap.size, 3, none⟩ = false := by rw [hf _ _ (by omega)]; exact sf3
      have p0 : wr.frozen? ⟨w.heap.size + 1, 0, none⟩ = false := by rw [hf _ _ (by omega)]; exact sq0
      have p1 : wr.frozen? ⟨w.heap.size + 1, 1, none⟩ = false := by rw [hf _ _ (by omega)]; exact sq1
      have p2 : wr.frozen? ⟨w.heap.size + 1, 2, none⟩ = false := by rw [hf _ _ (by omega)]; exact sq2
      have p3 : wr.frozen? ⟨w.heap.size + 1, 3, none⟩ = false := by rw [hf _ _ (by omega)]; exact sq3
      clear hf
      have u0 : (wr.setCell ⟨w.heap.size, 3, none⟩ (.slice qA qN qC)).cell? ⟨w.heap.size, 0, none⟩ = some (.int .i64 room) := by rw [World.cell?_setCell_other _ _ _ _ (by simp)]; exact t0
      have u1 : (wr.setCell ⟨w.heap.size, 3, none⟩ (.slice qA qN qC)).cell? ⟨w.heap.size, 1, none⟩ = some (.int .i64 fuse) := by rw [World.cell?_setCell_other _ _ _ _ (by simp)]; exact t1
      have u2 : (wr.setCell ⟨w.heap.size, 3, none⟩ (.slice qA qN qC)).cell? ⟨w.heap.size, 2, none⟩ = some (.slice f.a f.n f.c) := by rw [World.cell?_setCell_other _ _ _ _ (by simp)]; exact t2
      have u3 : (wr.setCell ⟨w.heap.size, 3, none⟩ (.slice qA qN qC)).cell? ⟨w.heap.size, 3, none⟩ = some (.slice qA qN qC) := World.cell?_setCell_same _ _ _ t3
      go_wp2
      refine bodyPost_ret (v := .agg #[.int .i64 room, .int .i64 fuse, .slice f.a f.n f.c, .slice qA qN qC]) (by simp [results, Try.results57, go_sem, c0, c1, c2, c3]) rfl ?_
      have hw2 := (Win.set (lo := w.heap.size) (hi := w.heap.size + 2) wr w.heap.size 3 (.slice qA qN qC) (by omega) (by omega)).trans ((((Win.set _ (w.heap.size + 1) 0 (.int .i64 room) (by omega) (by omega)).trans (Win.set _ (w.heap.size + 1) 1 (.int .i64 fuse) (by omega) (by omega))).trans (Win.set _ (w.heap.size + 1) 2 (.slice f.a f.n f.c) (by omega) (by omega))).trans (Win.set _ (w.heap.size + 1) 3 (.slice qA qN qC) (by omega) (by omega)))
      have of3 := (HOF.out.below hb).win hw2 (Or.inl (Nat.le_refl _))
      have oo3 := HO.out.win hw2 (Or.inl (by omega))
      refine ⟨⟨room, fuse, f.a, f.n, f.c, f.l, qA, qN, qC, qs⟩, rfl, ?_, ⟨⟨W1.heap.size, by omega, by simp only [size_set]; exact hb.size, ?_, by simp only [size_set]; exact oo3⟩, Nat.le_refl _⟩, BBr.trans (hw2.below (Nat.le_refl _) BBr.size)⟩
      · unfold datDisk; rw [← HDF.out, ← HQ.out]; rfl
      · rw [hsz]; exact of3.lo_le (by omega)
end Go.Proofs.Ytoodlmhnemamhaa

/- A block of four cells that can be written; what a drawn region loads, kept. -/
namespace Go.Proofs.Ytoodlmhnemamhaa
open Go.RowKit
/-- A block of four cells that can be written. -/
structure OutC (X : Nat) (a b v2 v3 : Value) (w : World) : Prop where
  c0 : w.cell? ⟨X, 0, none⟩ = some a
  c1 : w.cell? ⟨X, 1, none⟩ = some b
  c2 : w.cell? ⟨X, 2, none⟩ = some v2
  c3 : w.cell? ⟨X, 3, none⟩ = some v3
  f : ∀ o, o < 4 → w.frozen? ⟨X, o, none⟩ = false
theorem OutC.mk0 (w : World) (a b c d : Value) (t : TypeId) : OutC w.heap.size a b c d (w.alloc (.cells #[a, b, c, d] t)) := by
  refine ⟨by simp [go_sem], by simp [go_sem], by simp [go_sem], by simp [go_sem], fun o ho => ?_⟩
  have h5 : o = 0 ∨ o = 1 ∨ o = 2 ∨ o = 3 := by omega
  rcases h5 with rfl | rfl | rfl | rfl <;> simp [go_sem]
theorem OutC.lt {X : Nat} {a b v2 v3 : Value} {w : World} (h : OutC X a b v2 v3 w) : X < w.heap.size := World.block_lt_of_cell? _ _ h.c0
theorem OutC.block {X : Nat} {a b v2 v3 : Value} {w w' : World} (h : OutC X a b v2 v3 w) (hk : w'.heap[X]? = w.heap[X]?) : OutC X a b v2 v3 w' :=
  ⟨(World.cell?_of_block (a := ⟨X, 0, none⟩) hk).trans h.c0, (World.cell?_of_block (a := ⟨X, 1, none⟩) hk).trans h.c1, (World.cell?_of_block (a := ⟨X, 2, none⟩) hk).trans h.c2, (World.cell?_of_block (a := ⟨X, 3, none⟩) hk).trans h.c3, fun o ho => (World.frozen?_of_block (a := ⟨X, o, none⟩) hk).trans (h.f o ho)⟩
theorem OutC.below {X : Nat} {a b v2 v3 : Value} {w w' : World} (h : OutC X a b v2 v3 w) {B : Nat} (hb : Below B w w') (hX : X < B) : OutC X a b v2 v3 w' := h.block (hb.block X hX)
theorem OutC.later {X : Nat} {a b v2 v3 : Value} {w w' : World} (h : OutC X a b v2 v3 w) (hb : Below w.heap.size w w') : OutC X a b v2 v3 w' := h.block (hb.block X h.lt)
theorem OutC.win {X : Nat} {a b v2 v3 : Value} {w w' : World} {lo hi : Nat} (h : OutC X a b v2 v3 w) (hw : Win lo hi w w') (hX : X < lo ∨ hi ≤ X) : OutC X a b v2 v3 w' := h.block (hw.block X h.lt hX)
theorem OutC.set0 {X : Nat} {a b v2 v3 : Value} {w : World} (h : OutC X a b v2 v3 w) (v : Value) : OutC X v b v2 v3 (w.setCell ⟨X, 0, none⟩ v) :=
  ⟨World.cell?_setCell_same _ _ _ h.c0, by rw [World.cell?_setCell_other _ _ _ _ (by simp)]; exact h.c1, by rw [World.cell?_setCell_other _ _ _ _ (by simp)]; exact h.c2, by rw [World.cell?_setCell_other _ _ _ _ (by simp)]; exact h.c3, fun o ho => by rw [World.frozen?_setCell]; exact h.f o ho⟩
theorem OutC.set1 {X : Nat} {a b v2 v3 : Value} {w : World} (h : OutC X a b v2 v3 w) (v : Value) : OutC X a v v2 v3 (w.setCell ⟨X, 1, none⟩ v) :=
  ⟨by rw [World.cell?_setCell_other _ _ _ _ (by simp)]; exact h.c0, World.cell?_setCell_same _ _ _ h.c1, by rw [World.cell?_setCell_other _ _ _ _ (by simp)]; exact h.c2, by rw [World.cell?_setCell_other _ _ _ _ (by simp)]; exact h.c3, fun o ho => by rw [World.frozen?_setCell]; exact h.f o ho⟩
theorem OutC.set2 {X : Nat} {a b v2 v3 : Value} {w : World} (h : OutC X a b v2 v3 w) (v : Value) : OutC X a b v v3 (w.setCell ⟨X, 2, none⟩ v) :=
  ⟨by rw [World.cell?_setCell_other _ _ _ _ (by simp)]; exact h.c0, by rw [World.cell?_setCell_other _ _ _ _ (by simp)]; exact h.c1, World.cell?_setCell_same _ _ _ h.c2, by rw [World.cell?_setCell_other _ _ _ _ (by simp)]; exact h.c3, fun o ho => by rw [World.frozen?_setCell]; exact h.f o ho⟩
theorem OutC.set3 {X : Nat} {a b v2 v3 : Value} {w : World} (h : OutC X a b v2 v3 w) (v : Value) : OutC X a b v2 v (w.setCell ⟨X, 3, none⟩ v) :=
  ⟨by rw [World.cell?_setCell_other _ _ _ _ (by simp)]; exact h.c0, by rw [World.cell?_setCell_other _ _ _ _ (by simp)]; exact h.c1, by rw [World.cell?_setCell_other _ _ _ _ (by simp)]; exact h.c2, World.cell?_setCell_same _ _ _ h.c3, fun o ho => by rw [World.frozen?_setCell]; exact h.f o ho⟩
/-- The four stores of a whole disk. -/
theorem win_four (w : World) (X lo hi : Nat) (h1 : lo ≤ X) (h2 : X < hi) (a b c d : Value) : Win lo hi w ((((w.setCell ⟨X, 0, none⟩ a).setCell ⟨X, 1, none⟩ b).setCell ⟨X, 2, none⟩ c).setCell ⟨X, 3, none⟩ d) :=
  (((Win.set w X 0 a h1 h2).trans (Win.set _ X 1 b h1 h2)).trans (Win.set _ X 2 c h1 h2)).trans (Win.set _ X 3 d h1 h2)
theorem keepQB {w w' : World} {X o1 o2 : Nat} {v1 v2 : Value} (hb : Below w.heap.size w w') (h : w.cell? ⟨X, o1, none⟩ = some v1 ∧ w.cell? ⟨X, o2, none⟩ = some v2) : w'.cell? ⟨X, o1, none⟩ = some v1 ∧ w'.cell? ⟨X, o2, none⟩ = some v2 :=
  ⟨cell_later hb h.1, cell_later hb h.2⟩
theorem keepQS {w : World} {X Y o o1 o2 : Nat} {v v1 v2 : Value} (hne : Y < X) (h : w.cell? ⟨X, o1, none⟩ = some v1 ∧ w.cell? ⟨X, o2, none⟩ = some v2) : (w.setCell ⟨Y, o, none⟩ v).cell? ⟨X, o1, none⟩ = some v1 ∧ (w.setCell ⟨Y, o, none⟩ v).cell? ⟨X, o2, none⟩ = some v2 :=
  ⟨cell_win (Win.set (lo := Y) (hi := Y + 1) w Y o v (Nat.le_refl _) (Nat.lt_succ_self _)) h.1 (Or.inr hne), cell_win (Win.set (lo := Y) (hi := Y + 1) w Y o v (Nat.le_refl _) (Nat.lt_succ_self _)) h.2 (Or.inr hne)⟩
theorem keepW {w w' : World} {X o1 o2 o3 o4 : Nat} {v1 v2 v3 v4 : Value} (hb : Below w.heap.size w w') (h : w.cell? ⟨X, o1, none⟩ = some v1 ∧ w.cell? ⟨X, o2, none⟩ = some v2 ∧ w.cell? ⟨X, o3, none⟩ = some v3 ∧ w.cell? ⟨X, o4, none⟩ = some v4) : w'.cell? ⟨X, o1, none⟩ = some v1 ∧ w'.cell? ⟨X, o2, none⟩ = some v2 ∧ w'.cell? ⟨X, o3, none⟩ = some v3 ∧ w'.cell? ⟨X, o4, none⟩ = some v4 :=
  ⟨cell_later hb h.1, cell_later hb h.2.1, cell_later hb h.2.2.1, cell_later hb h.2.2.2⟩
theorem keepWA {w : World} {X o1 o2 o3 o4 : Nat} {v1 v2 v3 v4 : Value} (h : w.cell? ⟨X, o1, none⟩ = some v1 ∧ w.cell? ⟨X, o2, none⟩ = some v2 ∧ w.cell? ⟨X, o3, none⟩ = some v3 ∧ w.cell? ⟨X, o4, none⟩ = some v4) (o : Obj) : (w.alloc o).cell? ⟨X, o1, none⟩ = some v1 ∧ (w.alloc o).cell? ⟨X, o2, none⟩ = some v2 ∧ (w.alloc o).cell? ⟨X, o3, none⟩ = some v3 ∧ (w.alloc o).cell? ⟨X, o4, none⟩ = some v4 :=
  keepW ((Below.refl _ _).alloc (Nat.le_refl _) o) h
theorem keepWW {w w' : World} {lo hi X o1 o2 o3 o4 : Nat} {v1 v2 v3 v4 : Value} (hw : Win lo hi w w') (hd : X < lo ∨ hi ≤ X) (h : w.cell? ⟨X, o1, none⟩ = some v1 ∧ w.cell? ⟨X, o2, none⟩ = some v2 ∧ w.cell? ⟨X, o3, none⟩ = some v3 ∧ w.cell? ⟨X, o4, none⟩ = some v4) : w'.cell? ⟨X, o1, none⟩ = some v1 ∧ w'.cell? ⟨X, o2, none⟩ = some v2 ∧ w'.cell? ⟨X, o3, none⟩ = some v3 ∧ w'.cell? ⟨X, o4, none⟩ = some v4 :=
  ⟨cell_win hw h.1 hd, cell_win hw h.2.1 hd, cell_win hw h.2.2.1 hd, cell_win hw h.2.2.2 hd⟩
theorem keepWS {w : World} {X Y o o1 o2 o3 o4 : Nat} {v v1 v2 v3 v4 : Value} (hne : Y < X) (h : w.cell? ⟨X, o1, none⟩ = some v1 ∧ w.cell? ⟨X, o2, none⟩ = some v2 ∧ w.cell? ⟨X, o3, none⟩ = some v3 ∧ w.cell? ⟨X, o4, none⟩ = some v4) : (w.setCell ⟨Y, o, none⟩ v).cell? ⟨X, o1, none⟩ = some v1 ∧ (w.setCell ⟨Y, o, none⟩ v).cell? ⟨X, o2, none⟩ = some v2 ∧ (w.setCell ⟨Y, o, none⟩ v).cell? ⟨X, o3, none⟩ = some v3 ∧ (w.setCell ⟨Y, o, none⟩ v).cell? ⟨X, o4, none⟩ = some v4 :=
  keepWW (Win.set (lo := Y) (hi := Y + 1) w Y o v (Nat.le_refl _) (Nat.lt_succ_self _)) (Or.inr hne) h
theorem keepWG {w w' : World} {X o1 o2 o3 o4 : Nat} {v1 v2 v3 v4 : Value} {r : Option Nat} (hX : ∀ q, r = some q → q < X) (hg : w.grownBy w' r) (h : w.cell? ⟨X, o1, none⟩ = some v1 ∧ w.cell? ⟨X, o2, none⟩ = some v2 ∧ w.cell? ⟨X, o3, none⟩ = some v3 ∧ w.cell? ⟨X, o4, none⟩ = some v4) : w'.cell? ⟨X, o1, none⟩ = some v1 ∧ w'.cell? ⟨X, o2, none⟩ = some v2 ∧ w'.cell? ⟨X, o3, none⟩ = some v3 ∧ w'.cell? ⟨X, o4, none⟩ = some v4 := by
  have hk := hg.block X (World.block_lt_of_cell? _ _ h.1) (fun e => Nat.lt_irrefl _ (hX X e.symm))
  exact ⟨(World.cell?_of_block (a := ⟨X, o1, none⟩) hk).trans h.1, (World.cell?_of_block (a := ⟨X, o2, none⟩) hk).trans h.2.1, (World.cell?_of_block (a := ⟨X, o3, none⟩) hk).trans h.2.2.1, (World.cell?_of_block (a := ⟨X, o4, none⟩) hk).trans h.2.2.2⟩
theorem OutC.grown {X : Nat} {a b v2 v3 : Value} {w w' : World} {r : Option Nat} (h : OutC X a b v2 v3 w) (hg : w.grownBy w' r) (hr : ∀ q, r = some q → X < q) : OutC X a b v2 v3 w' :=
  h.block (hg.block X h.lt (fun e => Nat.lt_irrefl _ (hr X e.symm)))
end Go.Proofs.Ytoodlmhnemamhaa

/- What the rounds of copyDisk leave. -/
namespace Go.Proofs.Ytoodlmhnemamhaa
open Go.RowKit
/-- What a round of copyDisk leaves: a file. -/
theorem fileRound {X H : Nat} {WF w4 w9 : World} {a b v3 : Value} {qA : Option Addr} {qN qC : Nat} {qs : List FileR} {nm : ByteArray} {A4 : Option Addr} {N4 C4 : Nat} {xL : List Int} {g9 C9 : Nat}
    (hO : OwnFileS (X + 1) H WF ⟨qA, qN, qC, qs⟩) (hC : OutC X a b (.slice qA qN qC) v3 WF) (hX : X + 1 ≤ H) (hb4 : Below WF.heap.size WF.drew w4) (ho4 : OwnI .u8 5 WF.heap.size w4.heap.size w4 A4 N4 C4 xL)
    (ho9 : w9.ownsRow (X + 1) 71 2 (.slice (some ⟨g9, 0, none⟩) (qN + 1) C9) (qN + 1) (qs.flatMap encFile ++ [.string nm, .slice A4 N4 C4])) (hg9 : (w4.alloc (.cells #[.string nm, .slice A4 N4 C4] 71)).grownBy w9 (Value.slice qA qN qC).ownBlock)
    (hor9 : (Value.slice qA qN qC).ownBlock = some g9 ∨ g9 = (w4.alloc (.cells #[.string nm, .slice A4 N4 C4] 71)).heap.size) (hsm : qN < 100000000) :
    OwnFileS (X + 1) (w9.setCell ⟨X, 2, none⟩ (.slice (some ⟨g9, 0, none⟩) (qN + 1) C9)).heap.size (w9.setCell ⟨X, 2, none⟩ (.slice (some ⟨g9, 0, none⟩) (qN + 1) C9)) ⟨some ⟨g9, 0, none⟩, qN + 1, C9, qs ++ [⟨nm, A4, N4, C4, xL⟩]⟩ ∧
    OutC X a b (.slice (some ⟨g9, 0, none⟩) (qN + 1) C9) v3 (w9.setCell ⟨X, 2, none⟩ (.slice (some ⟨g9, 0, none⟩) (qN + 1) C9)) ∧ Below X WF (w9.setCell ⟨X, 2, none⟩ (.slice (some ⟨g9, 0, none⟩) (qN + 1) C9)) := by
  have htop := hO.nest.row.top
  have hBW : Below WF.heap.size WF w4 := (show Below WF.heap.size WF WF.drew from (Below.refl _ _).drew).trans hb4
  have BA := hBW.alloc hBW.size (.cells #[.string nm, .slice A4 N4 C4] 71)
  have HOA := hO.below BA
  have hq : ∀ q, (Value.slice qA qN qC).ownBlock = some q → X < q := fun q hq => (World.ownsRow.lt hO.nest.row.own q hq).1
  have hin := ((ho4.toS.below ((Below.refl w4.heap.size w4).alloc (Nat.le_refl _) (.cells #[.string nm, .slice A4 N4 C4] 71))).grow (by simp) (Nat.le_refl _))
  have HN := OwnFileS.snoc HOA htop (Nat.le_trans hX htop) ⟨nm, A4, N4, C4, xL⟩ g9 C9 hin ho9 hg9 hor9 (by show qN < 100000000; exact hsm)
  have hwS := Win.set (lo := X) (hi := X + 1) w9 X 2 (.slice (some ⟨g9, 0, none⟩) (qN + 1) C9) (Nat.le_refl _) (Nat.lt_succ_self _)
  have hc9 := (hC.later BA).grown hg9 hq
  have hs9 : X ≤ w9.heap.size := Nat.le_of_lt hc9.lt
  refine ⟨by rw [size_set]; exact HN.win hwS (Or.inl (Nat.le_refl _)), hc9.set2 _, ?_⟩
  exact ((BA.mono (by omega)).trans (below_grown hg9 (by have := BA.size; omega) (fun q hqq => Nat.le_of_lt (hq q hqq)))).trans (hwS.below (Nat.le_refl _) hs9)
/-- What a round of copyDisk leaves: an operation. -/
theorem opRound {X m H : Nat} {WF w4 w9 : World} {a b v2 : Value} {qA : Option Addr} {qN qC : Nat} {qs : List FsOpR} {x : FsOpR} {g9 C9 : Nat}
    (hO : OwnFsOpS m H WF ⟨qA, qN, qC, qs⟩) (hC : OutC X a b v2 (.slice qA qN qC) WF) (hX : X < m) (hm : m ≤ H) (hb4 : Below WF.heap.size WF.drew w4) (ho4 : OwnS (encI .u8) 1 5 WF.heap.size w4.heap.size w4 x.dataA x.dataN x.dataC x.data)
    (ho9 : w9.ownsRow m 27 4 (.slice (some ⟨g9, 0, none⟩) (qN + 1) C9) (qN + 1) (qs.flatMap encFsOp ++ [.int .i64 x.kind, .string x.name, .string x.dst, .slice x.dataA x.dataN x.dataC])) (hg9 : (w4.alloc (.cells #[.int .i64 x.kind, .string x.name, .string x.dst, .slice x.dataA x.dataN x.dataC] 27)).grownBy w9 (Value.slice qA qN qC).ownBlock)
    (hor9 : (Value.slice qA qN qC).ownBlock = some g9 ∨ g9 = (w4.alloc (.cells #[.int .i64 x.kind, .string x.name, .string x.dst, .slice x.dataA x.dataN x.dataC] 27)).heap.size) (hsm : qN < 100000000) :
    OwnFsOpS m (w9.setCell ⟨X, 3, none⟩ (.slice (some ⟨g9, 0, none⟩) (qN + 1) C9)).heap.size (w9.setCell ⟨X, 3, none⟩ (.slice (some ⟨g9, 0, none⟩) (qN + 1) C9)) ⟨some ⟨g9, 0, none⟩, qN + 1, C9, qs ++ [x]⟩ ∧
    OutC X a b v2 (.slice (some ⟨g9, 0, none⟩) (qN + 1) C9) (w9.setCell ⟨X, 3, none⟩ (.slice (some ⟨g9, 0, none⟩) (qN + 1) C9)) ∧ Below X WF (w9.setCell ⟨X, 3, none⟩ (.slice (some ⟨g9, 0, none⟩) (qN + 1) C9)) ∧
    ∀ (F : Row FileR), OwnFileS (X + 1) m WF F → OwnFileS (X + 1) m (w9.setCell ⟨X, 3, none⟩ (.slice (some ⟨g9, 0, none⟩) (qN + 1) C9)) F := by
  have htop := hO.nest.row.top
  have hBW : Below WF.heap.size WF w4 := (show Below WF.heap.size WF WF.drew from (Below.refl _ _).drew).trans hb4
  have BA := hBW.alloc hBW.size (.cells #[.int .i64 x.kind, .string x.name, .string x.dst, .slice x.dataA x.dataN x.dataC] 27)
  have HOA := hO.below BA
  have hq : ∀ q, (Value.slice qA qN qC).ownBlock = some q → m ≤ q := fun q hq => (World.ownsRow.lt hO.nest.row.own q hq).1
  have hin := ((ho4.below ((Below.refl w4.heap.size w4).alloc (Nat.le_refl _) (.cells #[.int .i64 x.kind, .string x.name, .string x.dst, .slice x.dataA x.dataN x.dataC] 27))).grow (by simp) (Nat.le_refl _))
  have HN := OwnFsOpS.snoc HOA htop (Nat.le_trans hm htop) x g9 C9 hin ho9 hg9 hor9 (by show qN < 100000000; exact hsm)
  have hwS := Win.set (lo := X) (hi := X + 1) w9 X 3 (.slice (some ⟨g9, 0, none⟩) (qN + 1) C9) (Nat.le_refl _) (Nat.lt_succ_self _)
  have hc9 := (hC.later BA).grown hg9 (fun q hqq => Nat.lt_of_lt_of_le hX (hq q hqq))
  have hs9 : X ≤ w9.heap.size := Nat.le_of_lt hc9.lt
  refine ⟨by rw [size_set]; exact HN.win hwS (Or.inl hX), hc9.set3 _, ?_, ?_⟩
  · exact ((BA.mono (by omega)).trans (below_grown hg9 (by have := BA.size; omega) (fun q hqq => by have := hq q hqq; omega))).trans (hwS.below (Nat.le_refl _) hs9)
  · intro F hF
    have h1 := hF.below BA
    have h2 := h1.win (Win.of_grown (lo := m) (hi := w9.heap.size + m) hg9 (fun q hqq => ⟨hq q hqq, by have h3 := HOA.nest.row.lt q hqq; have h4 := hg9.size; have h5 := BA.size; omega⟩)) (Or.inr (Nat.le_refl _))
    exact h2.win hwS (Or.inl (Nat.le_refl _))
end Go.Proofs.Ytoodlmhnemamhaa

/- copyDisk of the program. -/
namespace Go.Proofs.Ytoodlmhnemamhaa
open Go.RowKit
set_option maxRecDepth 100000 in
set_option maxHeartbeats 12800000 in
theorem copyDisk_any (y : DiskR) (w : World) (g : rdDisk w y) (hn : bulkDisk y ≤ 1048576) (n12 : y.filesN ≤ 10000000) (n60 : y.waitN ≤ 10000000) :
    Calls Try.prog 58 #[.agg #[.int .i64 y.room, .int .i64 y.fuse, .slice y.filesA y.filesN y.filesC, .slice y.waitA y.waitN y.waitC]] w fun e w' => RetDO (datDisk y) w e w' := by
  obtain ⟨room, fuse, fA, fN, fC, fs, oA, oN, oC, os⟩ := y
  obtain ⟨⟨gf, gfi⟩, go, goi⟩ := g
  unfold bulkDisk at hn
  simp only [fR, oR] at gf gfi go goi hn n12 n60 ⊢
  have HSB : Hid (sizeF (datFileS ⟨fA, fN, fC, fs⟩) ≤ 10000000) := Lib.hid (by have := size_bulk (w := w) (y := ⟨fA, fN, fC, fs⟩) ⟨gf, gfi⟩; omega)
  have HZ : Hid (∀ f ∈ fs, f.dataN ≤ 10000000) := Lib.hid (fun f hf => by
    have h1 := le_sizeF (datFileS ⟨fA, fN, fC, fs⟩) (datFile f) (List.mem_map_of_mem hf)
    have h2 := (gfi f hf).len
    have h4 := HSB.out
    unfold datFile at h1
    simp only at h1
    have h3 : f.data.length = f.dataN := h2
    omega)
  have HFL : Hid (fs.length = fN) := Lib.hid gf.len
  have HOL : Hid (os.length = oN) := Lib.hid go.len
  have HDN : Hid (∀ k, k < os.length → (atFsOp os k).dataN ≤ 1048576) := Lib.hid (fun k hk => by
    have h1 := preFsOp_top os k hk
    have h2 : bulkFsOpS ⟨oA, oN, oC, os⟩ = oN + preFsOp os os.length := rfl
    have h3 : (atFsOp os k).dataN ≤ bulkFsOp (atFsOp os k) := by unfold bulkFsOp; omega
    omega)
  have om := go.max
  have ol := go.le
  have fm := gf.max
  have fl := gf.le
  unfold maxLen at om fm
  have hb0 := (((Below.refl w.heap.size w).alloc (Nat.le_refl _) (.cells #[.int .i64 room, .int .i64 fuse, .slice fA fN fC, .slice oA oN oC] 34)).alloc (by simp) (.cells #[.int .i64 0, .int .i64 0, .slice none 0 0, .slice none 0 0] 34)).alloc (by simp; omega) (.cells #[.int .i64 room, .int .i64 fuse, .slice none 0 0, .slice none 0 0] 34)
  have HGO : Hid (∀ x ∈ os, rdFsOp w x) := Lib.hid goi
  have HGF : Hid (∀ x ∈ fs, rdFile w x) := Lib.hid gfi
  obtain ⟨i0, hi, hz0, hz1, hz2⟩ := info_parts infoFsOp
  obtain ⟨i1, ji, jz0, jz1, jz2⟩ := info_parts infoFile
  have HDT : Hid (datDisk ⟨room, fuse, fA, fN, fC, fs, oA, oN, oC, os⟩ = (room, fuse, (fs.take fN).map datFile, (os.take oN).map datFsOp)) := Lib.hid (by rw [← HOL.out, ← HFL.out, List.take_length, List.take_length]; rfl)
  have HAA := OutC.mk0 w (.int .i64 room) (.int .i64 fuse) (.slice fA fN fC) (.slice oA oN oC) 34
  have HBB := OutC.mk0 (w.alloc (.cells #[.int .i64 room, .int .i64 fuse, .slice fA fN fC, .slice oA oN oC] 34)) (.int .i64 0) (.int .i64 0) (.slice none 0 0) (.slice none 0 0) 34
  have HCC := OutC.mk0 ((w.alloc (.cells #[.int .i64 room, .int .i64 fuse, .slice fA fN fC, .slice oA oN oC] 34)).alloc (.cells #[.int .i64 0, .int .i64 0, .slice none 0 0, .slice none 0 0] 34)) (.int .i64 room) (.int .i64 fuse) (.slice none 0 0) (.slice none 0 0) 34
  have HA := Lib.hid ((HAA.later ((Below.refl _ _).alloc (Nat.le_refl _) (.cells #[.int .i64 0, .int .i64 0, .slice none 0 0, .slice none 0 0] 34))).later ((Below.refl _ _).alloc (Nat.le_refl _) (.cells #[.int .i64 room, .int .i64 fuse, .slice none 0 0, .slice none 0 0] 34)))
  have HB := Lib.hid (HBB.later ((Below.refl _ _).alloc (Nat.le_refl _) (.cells #[.int .i64 room, .int .i64 fuse, .slice none 0 0, .slice none 0 0] 34)))
  have HC := Lib.hid HCC
  rw [show ((w.alloc (.cells #[.int .i64 room, .int .i64 fuse, .slice fA fN fC, .slice oA oN oC] 34)).alloc (.cells #[.int .i64 0, .int .i64 0, .slice none 0 0, .slice none 0 0] 34)).heap.size = w.heap.size + 2 from by simp] at HC
  rw [show (w.alloc (.cells #[.int .i64 room, .int .i64 fuse, .slice fA fN fC, .slice oA oN oC] 34)).heap.size = w.heap.size + 1 from by simp] at HB
  clear HAA HBB HCC
  have a2 := HA.out.c2
  have hs0 : w.heap.size + 3 = (((w.alloc (.cells #[.int .i64 room, .int .i64 fuse, .slice fA fN fC, .slice oA oN oC] 34)).alloc (.cells #[.int .i64 0, .int .i64 0, .slice none 0 0, .slice none 0 0] 34)).alloc (.cells #[.int .i64 room, .int .i64 fuse, .slice none 0 0, .slice none 0 0] 34)).heap.size := by simp
  rw [HDT.out]
  clear gfi goi hn HDT HSB
  go_enter Try.func58, Try.ntmps58
  go_wp2_with fail
  generalize ((w.alloc (.cells #[.int .i64 room, .int .i64 fuse, .slice fA fN fC, .slice oA oN oC] 34)).alloc (.cells #[.int .i64 0, .int .i64 0, .slice none 0 0, .slice none 0 0] 34)).alloc (.cells #[.int .i64 room, .int .i64 fuse, .slice none 0 0, .slice none 0 0] 34) = W0 at *
  go_loopw [16] (fun i wr => ∃ (k : Nat) (q : Row FileR), k ≤ fN ∧ i = .int .i64 k ∧ q.n = k ∧ Hid (OwnFileS (w.heap.size + 3) wr.heap.size wr q) ∧ Hid (datFileS q = (fs.take k).map datFile) ∧ Hid (OutC (w.heap.size + 2) (.int .i64 room) (.int .i64 fuse) (.slice q.a q.n q.c) (.slice none 0 0) wr) ∧ Below (w.heap.size + 2) W0 wr) (fun i _ => fN - (intOf i).toNat)
  case atStart => exact ⟨0, ⟨none, 0, 0, []⟩, Nat.zero_le _, rfl, rfl, Lib.hid (OwnFileS.nil _ _), Lib.hid rfl, HC, Below.refl _ _⟩
  case round =>
    obtain ⟨k, q, hk, rfl, hqk, HO, HQ, HCr, hb⟩ := hrel
    obtain ⟨qA, qN, qC, qs⟩ := q
    simp only at hqk
    subst hqk
    have BBr := hb0.trans (hb.mono (by omega))
    have hsr : w.heap.size + 3 ≤ wr.heap.size := by have := hb.size; omega
    by_cases hlt : qN < fN
    · obtain ⟨b, off, rfl, hbl, hcc⟩ := gf.rowFile (by omega)
      obtain ⟨k0, k1⟩ := hcc qN hlt
      have cb : ∀ o, wr.cell? ⟨b, o, none⟩ = w.cell? ⟨b, o, none⟩ := fun o => BBr.cell (p := ⟨b, o, none⟩) hbl
      rw [← cb] at k0 k1
      have hi1 : (qN : Int) < (fN : Int) := by omega
      have hkx : qN < fs.length := by rw [HFL.out]; exact hlt
      have hxn : (atFile fs qN).dataN ≤ 10000000 := by rw [atFile_eq fs qN hkx]; exact HZ.out _ (List.getElem_mem hkx)
      have HXR : Hid (rdFile wr (atFile fs qN)) := Lib.hid (by rw [atFile_eq fs qN hkx]; exact rdFile_below (HGF.out _ (List.getElem_mem hkx)) BBr (Nat.le_refl _))
      have HST : Hid ((fs.take (qN + 1)).map datFile = (fs.take qN).map datFile ++ [datFile (atFile fs qN)]) := Lib.hid (by rw [List.take_succ_eq_append_getElem hkx, List.map_append, atFile_eq fs qN hkx]; rfl)
      clear hcc cb hkx
      generalize atFile fs qN = x at *
      obtain ⟨nm, xA, xN, xC, xL⟩ := x
      try simp only at k0 k1 hxn
      have hal := (Below.refl wr.heap.size wr).alloc (Nat.le_refl _) (.cells #[.string nm, .slice xA xN xC] 71)
      have E0 : (wr.alloc (.cells #[.string nm, .slice xA xN xC] 71)).cell? ⟨wr.heap.size, 0, none⟩ = some (.string nm) := by simp [go_sem]
      have E1 : (wr.alloc (.cells #[.string nm, .slice xA xN xC] 71)).cell? ⟨wr.heap.size, 1, none⟩ = some (.slice xA xN xC) := by simp [go_sem]
      have HOF := Lib.hid (HO.out.below hal)
      have HCF := Lib.hid (HCr.out.later hal)
      have HXF := Lib.hid (rdFile_below HXR.out hal (Nat.le_refl _))
      have hwF : (wr.alloc (.cells #[.string nm, .slice xA xN xC] 71)).heap.size = wr.heap.size + 1 := by simp
      have hbF := hb.trans (hal.mono (by omega))
      clear a2 hal
      go_wp2_with fail
      generalize wr.alloc (.cells #[.string nm, .slice xA xN xC] 71) = WF at *
      have hbD : Below WF.heap.size WF WF.drew := (Below.refl _ _).drew
      have HXD := Lib.hid (rdFile_below HXF.out hbD (Nat.le_refl _))
      have K0 : WF.drew.cell? ⟨w.heap.size + 2, 2, none⟩ = some (.slice qA qN qC) := HCF.out.c2
      have J0 : WF.drew.cell? ⟨wr.heap.size, 0, none⟩ = some (.string nm) := E0
      have J1 : WF.drew.cell? ⟨wr.heap.size, 1, none⟩ = some (.slice xA xN xC) := E1
      have hqg : ∀ q, (Value.slice qA qN qC).ownBlock = some q → q < wr.heap.size := fun q hq => HOF.out.nest.row.lt q hq
      have hqo : ∀ q, (Value.slice qA qN qC).ownBlock = some q → w.heap.size + 2 < q := fun q hq => (World.ownsRow.lt HOF.out.nest.row.own q hq).1
      have hXlt : w.heap.size + 2 < wr.heap.size := by omega
      go_region_law (first
          | (go_simp; go_at_call 56; refine (copyBytes_any xA xN xC xL _ HXD.out (by omega)).mono ?_; rintro e w4 ⟨A4, N4, C4, rfl, ho4, hb4⟩; have K4 := cell_later hb4 K0; have L4 := cell_later hb4 J0; have K5 := cell_later ((Below.refl w4.heap.size w4).alloc (Nat.le_refl _) (.cells #[.string nm, .slice A4 N4 C4] 71)) K4)
          | (refine step_append_lies _ (by rfl) _ _ _ (by rfl) (w.heap.size + 3) 71 i1 _ 2 40 Try.underlying31 ji jz0 jz1 jz2 rfl (by decide) (.slice qA qN qC) qN (qs.flatMap encFile) (by rfl) ((HOF.out.below ((hbD.trans hb4).alloc (hbD.trans hb4).size _)).nest.row.own) ⟨w4.heap.size, 0, none⟩ 1 1 [.string nm, .slice A4 N4 C4] (by rfl) (by rfl) (news_twoB w4 _ _ _) (one_file ⟨nm, A4, N4, C4, []⟩) (by decide) (by unfold maxLen; omega) (by omega) (by have := ((hbD.trans hb4).alloc (hbD.trans hb4).size (.cells #[.string nm, .slice A4 N4 C4] 71)).size; omega) _ rfl ?_; rintro g9 C9 w9 ho9 hg9 hor9 hlt9; have HC9 := ((HCF.out.later (hbD.trans hb4)).later ((Below.refl _ _).alloc (Nat.le_refl _) (.cells #[.string nm, .slice A4 N4 C4] 71))).grown hg9 hqo; have M9 := HC9.c2; have N9 := HC9.f 2 (by omega)))
      all_goals
        have ⟨HN, HC2, hb9⟩ := fileRound (X := w.heap.size + 2) HOF.out HCF.out (by omega) hb4 ho4 ho9 hg9 (by simpa using hor9) (by omega)
        have HN2 := Lib.hid HN
        have HC3 := Lib.hid HC2
        have hb10 := hbF.trans hb9
        clear HN HC2 hb9 ho9 hg9 hor9 hb4 ho4 K0 K4 K5 L4 J0 J1 M9 N9 HC9 hlt9
        have HQ2 : Hid (datFileS ⟨some ⟨g9, 0, none⟩, qN + 1, C9, qs ++ [⟨nm, A4, N4, C4, xL⟩]⟩ = (fs.take (qN + 1)).map datFile) := Lib.hid (by
          rw [HST.out, ← HQ.out]
          unfold datFileS
          rw [List.map_append]
          rfl)
        go_wp2
        go_roundw
        case rel => exact ⟨qN + 1, ⟨some ⟨g9, 0, none⟩, qN + 1, C9, qs ++ [⟨nm, A4, N4, C4, xL⟩]⟩, by omega, by go_num, rfl, HN2, HQ2, HC3, hb10⟩
        case measure => simp [intOf]; omega
    · obtain rfl : qN = fN := by omega
      obtain ⟨V, hV⟩ : ∃ V, V = wr := ⟨wr, rfl⟩
      subst hV
      have HAr := Lib.hid (HA.out.below hb (by omega))
      have HBr := Lib.hid (HB.out.below hb (by omega))
      have a3 := HAr.out.c3
      clear HA HB HC
      go_wp2_with fail
      go_loopw [35] (fun i wr => ∃ (k : Nat) (q : Row FsOpR), k ≤ oN ∧ i = .int .i64 k ∧ q.n = k ∧ Hid (OwnFsOpS V.heap.size wr.heap.size wr q) ∧ Hid (datFsOpS q = (os.take k).map datFsOp) ∧ Hid (OutC (w.heap.size + 2) (.int .i64 room) (.int .i64 fuse) (.slice qA qN qC) (.slice q.a q.n q.c) wr) ∧ Hid (OwnFileS (w.heap.size + 3) V.heap.size wr ⟨qA, qN, qC, qs⟩) ∧ Below (w.heap.size + 2) V wr) (fun i _ => oN - (intOf i).toNat)
      case atStart => exact ⟨0, ⟨none, 0, 0, []⟩, Nat.zero_le _, rfl, rfl, Lib.hid (OwnFsOpS.nil _ _), Lib.hid rfl, HCr, HO, Below.refl _ _⟩
      case round =>
        obtain ⟨k, q, hk2, rfl, hqk, HOo, HQo, HCo, HFo, hbo⟩ := hrel
        obtain ⟨pA, pN, pC, ps⟩ := q
        simp only at hqk
        subst hqk
        have BBo := BBr.trans (hbo.mono (by omega))
        have hsz2 : V.heap.size ≤ wr.heap.size := hbo.size
        by_cases hlt2 : pN < oN
        · obtain ⟨b, off, rfl, hbl, hcc⟩ := go.rowFsOp (by omega)
          obtain ⟨k0, k1, k2, k3⟩ := hcc pN hlt2
          have cb : ∀ o, wr.cell? ⟨b, o, none⟩ = w.cell? ⟨b, o, none⟩ := fun o => BBo.cell (p := ⟨b, o, none⟩) hbl
          rw [← cb] at k0 k1 k2 k3
          have hi1 : (pN : Int) < (oN : Int) := by omega
          have hkx : pN < os.length := by rw [HOL.out]; exact hlt2
          have hxn : (atFsOp os pN).dataN ≤ 1048576 := HDN.out _ hkx
          have HXR : Hid (rdFsOp wr (atFsOp os pN)) := Lib.hid (by rw [atFsOp_eq os pN hkx]; exact rdFsOp_below (HGO.out _ (List.getElem_mem hkx)) BBo (Nat.le_refl _))
          have HST : Hid ((os.take (pN + 1)).map datFsOp = (os.take pN).map datFsOp ++ [datFsOp (atFsOp os pN)]) := Lib.hid (by rw [List.take_succ_eq_append_getElem hkx, List.map_append, atFsOp_eq os pN hkx]; rfl)
          clear hcc cb hkx
          generalize atFsOp os pN = x at *
          obtain ⟨ok, onm, odst, xA, xN, xC, xL⟩ := x
          try simp only at k0 k1 k2 k3 hxn
          have hal := (Below.refl wr.heap.size wr).alloc (Nat.le_refl _) (.cells #[.int .i64 ok, .string onm, .string odst, .slice xA xN xC] 27)
          have HE := OutC.mk0 wr (.int .i64 ok) (.string onm) (.string odst) (.slice xA xN xC) 27
          have HOF := Lib.hid (HOo.out.below hal)
          have HFF := Lib.hid (HFo.out.below hal)
          have HCF := Lib.hid (HCo.out.later hal)
          have HXF := Lib.hid (rdFsOp_below HXR.out hal (Nat.le_refl _))
          have hwF : (wr.alloc (.cells #[.int .i64 ok, .string onm, .string odst, .slice xA xN xC] 27)).heap.size = wr.heap.size + 1 := by simp
          have hbF := hbo.trans (hal.mono (by omega))
          clear hal a3
          go_wp2_with fail
          generalize wr.alloc (.cells #[.int .i64 ok, .string onm, .string odst, .slice xA xN xC] 27) = WF at *
          have hbD : Below WF.heap.size WF WF.drew := (Below.refl _ _).drew
          have HXD := Lib.hid (rdFsOp_below HXF.out hbD (Nat.le_refl _))
          have K0 : WF.drew.cell? ⟨w.heap.size + 2, 3, none⟩ = some (.slice pA pN pC) := HCF.out.c3
          have J0 : WF.drew.cell? ⟨wr.heap.size, 0, none⟩ = some (.int .i64 ok) := HE.c0
          have J1 : WF.drew.cell? ⟨wr.heap.size, 1, none⟩ = some (.string onm) := HE.c1
          have J2 : WF.drew.cell? ⟨wr.heap.size, 2, none⟩ = some (.string odst) := HE.c2
          have J3 : WF.drew.cell? ⟨wr.heap.size, 3, none⟩ = some (.slice xA xN xC) := HE.c3
          have hqo : ∀ q, (Value.slice pA pN pC).ownBlock = some q → w.heap.size + 2 < q := fun q hq => by have := (World.ownsRow.lt HOF.out.nest.row.own q hq).1; omega
          go_region_law (first
            | (go_simp; go_at_call 60; refine (copyOp_any ⟨ok, onm, odst, xA, xN, xC, xL⟩ _ HXD.out (by show xN ≤ 100000000; omega)).mono ?_; rintro e w4 ⟨⟨o0, o1, o2, A4, N4, C4, L4⟩, rfl, hdx, hnx, ho4, hb4⟩; have K4 := cell_later hb4 K0; have K5 := cell_later ((Below.refl w4.heap.size w4).alloc (Nat.le_refl _) (.cells #[.int .i64 o0, .string o1, .string o2, .slice A4 N4 C4] 27)) K4)
            | (refine step_append_lies _ (by rfl) _ _ _ (by rfl) V.heap.size 27 i0 _ 4 64 Try.underlying32 hi hz0 hz1 hz2 rfl (by decide) (.slice pA pN pC) pN (ps.flatMap encFsOp) (by rfl) ((HOF.out.below ((hbD.trans hb4).alloc (hbD.trans hb4).size _)).nest.row.own) ⟨w4.heap.size, 0, none⟩ 1 1 [.int .i64 o0, .string o1, .string o2, .slice A4 N4 C4] (by rfl) (by rfl) (news_four w4 _ _ _ _ _) (one_fsOp ⟨o0, o1, o2, A4, N4, C4, []⟩) (by decide) (by unfold maxLen; omega) (by omega) (by have := ((hbD.trans hb4).alloc (hbD.trans hb4).size (.cells #[.int .i64 o0, .string o1, .string o2, .slice A4 N4 C4] 27)).size; omega) _ rfl ?_; rintro g9 C9 w9 ho9 hg9 hor9 hlt9; have HC9 := ((HCF.out.later (hbD.trans hb4)).later ((Below.refl _ _).alloc (Nat.le_refl _) (.cells #[.int .i64 o0, .string o1, .string o2, .slice A4 N4 C4] 27))).grown hg9 hqo; have M9 := HC9.c3; have N9 := HC9.f 3 (by omega)))
          all_goals
            have ⟨HN, HC2, hb9, HF9⟩ := opRound (X := w.heap.size + 2) (x := ⟨o0, o1, o2, A4, N4, C4, L4⟩) HOF.out HCF.out (by omega) hsz2 hb4 ho4 ho9 hg9 (by simpa using hor9) (by omega)
            have HN2 := Lib.hid HN
            have HC3 := Lib.hid HC2
            have HF10 := Lib.hid (HF9 _ HFF.out)
            have hb10 := hbF.trans hb9
            clear HN HC2 hb9 HF9 ho9 hg9 hor9 hb4 ho4 K0 K4 K5 J0 J1 J2 J3 M9 N9 HC9 hlt9
            have HQ2 : Hid (datFsOpS ⟨some ⟨g9, 0, none⟩, pN + 1, C9, ps ++ [⟨o0, o1, o2, A4, N4, C4, L4⟩]⟩ = (os.take (pN + 1)).map datFsOp) := Lib.hid (by
              rw [HST.out, ← HQo.out, ← hdx]
              unfold datFsOpS
              rw [List.map_append]
              rfl)
            clear hdx
            go_wp2
            go_roundw
            case rel => exact ⟨pN + 1, ⟨some ⟨g9, 0, none⟩, pN + 1, C9, ps ++ [⟨o0, o1, o2, A4, N4, C4, L4⟩]⟩, by omega, by go_num, rfl, HN2, HQ2, HC3, HF10, hb10⟩
            case measure => simp [intOf]; omega
        · obtain rfl : pN = oN := by omega
          obtain ⟨c0, c1, c2, c3, _⟩ := HCo.out
          obtain ⟨b0, b1, b2, b3, bf⟩ := HBr.out.below hbo (by omega)
          have p0 := bf 0 (by omega)
          have p1 := bf 1 (by omega)
          have p2 := bf 2 (by omega)
          have p3 := bf 3 (by omega)
          clear bf
          go_wp2
          refine bodyPost_ret (v := .agg #[.int .i64 room, .int .i64 fuse, .slice qA qN qC, .slice pA pN pC]) (by simp [results, Try.results58, go_sem, b0, b1, b2, b3]) rfl ?_
          have hw2 := win_four wr (w.heap.size + 1) (w.heap.size + 1) (w.heap.size + 2) (Nat.le_refl _) (by omega) (.int .i64 room) (.int .i64 fuse) (.slice qA qN qC) (.slice pA pN pC)
          have of3 := HFo.out.win hw2 (Or.inl (by omega))
          have oo3 := HOo.out.win hw2 (Or.inl (by omega))
          refine ⟨⟨room, fuse, qA, qN, qC, qs, pA, pN, pC, ps⟩, rfl, ?_, ⟨⟨V.heap.size, by omega, by simp only [size_set]; exact hsz2, of3.lo_le (by omega), by simp only [size_set]; exact oo3⟩, Nat.le_refl _⟩, BBo.trans (hw2.below (by omega) BBo.size)⟩
          have e1 := HQ.out; have e2 := HQo.out; unfold datDisk; show (room, fuse, datFileS ⟨qA, qN, qC, qs⟩, datFsOpS ⟨pA, pN, pC, ps⟩) = _; rw [e1, e2]; simp only [List.map_take]
end Go.Proofs.Ytoodlmhnemamhaa

/- DiskSet, DiskBend, DiskDo: what they answer, plain. -/
namespace Go.Proofs.Ytoodlmhnemamhaa
open Go.RowKit
theorem preFile_dat (xs : List FileR) (h : ∀ f ∈ xs, f.data.length = f.dataN) : preFile xs xs.length = ((xs.map datFile).map fun f : FD => f.1.size + f.2.length).sum := by
  unfold preFile
  rw [List.take_length, List.map_map]
  congr 1
  apply List.map_congr_left
  intro f hf
  have := h f hf
  show bulkFile f = f.name.size + f.data.length
  unfold bulkFile
  omega
theorem preFsOp_dat (xs : List FsOpR) (h : ∀ f ∈ xs, f.data.length = f.dataN) : preFsOp xs xs.length = ((xs.map datFsOp).map fun f : OD => f.2.1.size + f.2.2.1.size + f.2.2.2.length).sum := by
  unfold preFsOp
  rw [List.take_length, List.map_map]
  congr 1
  apply List.map_congr_left
  intro f hf
  have := h f hf
  show bulkFsOp f = f.name.size + f.dst.size + f.data.length
  unfold bulkFsOp
  omega
/-- How much a disk's data take. -/
def bulkFl (F : List FD) : Nat := F.length + (F.map fun f : FD => f.1.size + f.2.length).sum
def bulkOl (O : List OD) : Nat := O.length + (O.map fun f : OD => f.2.1.size + f.2.2.1.size + f.2.2.2.length).sum
def bulkD (D : DskD) : Nat := bulkFl D.2.2.1 + bulkOl D.2.2.2
theorem bulkDisk_dat {w : World} {y : DiskR} (g : rdDisk w y) : bulkDisk y = bulkD (datDisk y) := by
  obtain ⟨⟨gf, gfi⟩, go, goi⟩ := g
  have e1 := gf.len
  have e2 := go.len
  have e3 := preFile_dat y.files (fun f hf => (gfi f hf).len)
  have e4 := preFsOp_dat y.wait (fun f hf => (goi f hf).len)
  unfold bulkDisk bulkD bulkFl bulkOl bulkFileS bulkFsOpS datDisk datFileS datFsOpS fR oR at *
  simp only [List.length_map] at *
  omega
theorem bulkOl_snoc (O : List OD) (o : OD) : bulkOl (O ++ [o]) = bulkOl O + 1 + (o.2.1.size + o.2.2.1.size + o.2.2.2.length) := by
  unfold bulkOl
  rw [List.map_append, List.sum_append, List.length_append]
  simp only [List.map_cons, List.map_nil, List.sum_cons, List.sum_nil, List.length_cons, List.length_nil]
  omega
theorem filesN_le {y : DiskR} (hn : bulkDisk y ≤ 1048576) : y.filesN ≤ 10000000 := by
  unfold bulkDisk bulkFileS fR at hn
  simp only at hn
  omega
theorem waitN_le {y : DiskR} (hn : bulkDisk y ≤ 1048576) : y.waitN ≤ 10000000 := by
  unfold bulkDisk bulkFsOpS oR at hn
  simp only at hn
  omega
theorem OwnDisk.grow {lo hi hi' : Nat} {w : World} {y : DiskR} (h : OwnDisk lo hi w y) (hl : hi ≤ hi') (ht : hi' ≤ w.heap.size) : OwnDisk lo hi' w y := by
  obtain ⟨⟨m, h1, h2, h3, h4⟩, _⟩ := h
  exact ⟨⟨m, h1, Nat.le_trans h2 hl, h3, h4.grow hl ht⟩, ht⟩
/-! the answers -/
def noD : DskD := (0, 0, [], [])
def okD (D : DskD) : Bool := diskB D.1 D.2.1 D.2.2.1 D.2.2.2
def burnI (f : Int) : Int := if 0 < f then f - 1 else f
def setD (D : DskD) (room fuse : Int) : DskD × Bool := if okD D = true ∧ okD (room, fuse, D.2.2.1, D.2.2.2) = true then ((room, fuse, D.2.2.1, D.2.2.2), true) else (noD, false)
theorem setD_no {D : DskD} {room fuse : Int} (h : ¬ (okD D = true ∧ okD (room, fuse, D.2.2.1, D.2.2.2) = true)) : setD D room fuse = (noD, false) := by
  unfold setD
  rw [if_neg h]
theorem setD_yes {D : DskD} {room fuse : Int} (h : okD D = true) (h2 : okD (room, fuse, D.2.2.1, D.2.2.2) = true) : setD D room fuse = ((room, fuse, D.2.2.1, D.2.2.2), true) := by
  unfold setD
  rw [if_pos ⟨h, h2⟩]
/-- The place of a name, the length where there is none. -/
def placeF (l : List FD) (nm : ByteArray) : Nat := l.findIdx fun f => eqN f.1 nm
def bendV (x mask : Int) : Int := ((x.toNat ^^^ mask.toNat : Nat) : Int)
def bendF (l : List FD) (k p : Nat) (mask : Int) : List FD := l.set k ((atFD l k).1, (atFD l k).2.set p (bendV ((atFD l k).2.getD p 0) mask))
def bendB (D : DskD) (nm : ByteArray) (p mask : Int) : Bool := decide (okD D = true ∧ D.2.2.2.length = 0 ∧ (1 ≤ mask ∧ mask ≤ 255) ∧ placeF D.2.2.1 nm < D.2.2.1.length ∧ 0 ≤ p ∧ p < ((atFD D.2.2.1 (placeF D.2.2.1 nm)).2.length : Int))
def bendD (D : DskD) (nm : ByteArray) (p mask : Int) : DskD × Bool := if bendB D nm p mask = true then ((D.1, D.2.1, bendF D.2.2.1 (placeF D.2.2.1 nm) p.toNat mask, D.2.2.2), true) else (noD, false)
theorem bendD_no {D : DskD} {nm : ByteArray} {p mask : Int} (h : ¬ (okD D = true ∧ D.2.2.2.length = 0 ∧ (1 ≤ mask ∧ mask ≤ 255) ∧ placeF D.2.2.1 nm < D.2.2.1.length ∧ 0 ≤ p ∧ p < ((atFD D.2.2.1 (placeF D.2.2.1 nm)).2.length : Int))) : bendD D nm p mask = (noD, false) := by
  unfold bendD bendB
  rw [if_neg (by rw [decide_eq_false h]; simp)]
theorem bendD_yes {D : DskD} {nm : ByteArray} {p mask : Int} (h : okD D = true ∧ D.2.2.2.length = 0 ∧ (1 ≤ mask ∧ mask ≤ 255) ∧ placeF D.2.2.1 nm < D.2.2.1.length ∧ 0 ≤ p ∧ p < ((atFD D.2.2.1 (placeF D.2.2.1 nm)).2.length : Int)) : bendD D nm p mask = ((D.1, D.2.1, bendF D.2.2.1 (placeF D.2.2.1 nm) p.toNat mask, D.2.2.2), true) := by
  unfold bendD bendB
  rw [if_pos (decide_eq_true h)]
theorem placeF_eq {l : List FD} {nm : ByteArray} {k : Nat} (hk : k < l.length) (he : eqN (atFD l k).1 nm = true) (hb : ∀ j, j < k → eqN (atFD l j).1 nm = false) : placeF l nm = k := by
  unfold placeF
  have at' : ∀ j (h : j < l.length), atFD l j = l[j] := fun j h => by simp [atFD, List.getD, h]
  rw [List.findIdx_eq hk]
  refine ⟨by rw [← at' k hk]; exact he, fun j hj => ?_⟩
  rw [← at' j (by omega)]
  exact hb j hj
theorem placeF_none {l : List FD} {nm : ByteArray} (h : ∀ j, j < l.length → eqN (atFD l j).1 nm = false) : placeF l nm = l.length := by
  unfold placeF
  rw [List.findIdx_eq_length]
  intro x hx
  obtain ⟨j, hj, rfl⟩ := List.getElem_of_mem hx
  have := h j hj
  have e : atFD l j = l[j] := by simp [atFD, List.getD, hj]
  rw [e] at this
  exact this
theorem placeF_at {l : List FD} {nm : ByteArray} (h : placeF l nm < l.length) : eqN (atFD l (placeF l nm)).1 nm = true := by
  have e : atFD l (placeF l nm) = l[placeF l nm] := by simp [atFD, List.getD, h]
  rw [e]
  exact List.findIdx_getElem (p := fun f : FD => eqN f.1 nm) (w := h)
/-- Names that go up: one place at most. -/
theorem placeF_one {l : List FD} {nm : ByteArray} (h : namesB l = true) {k : Nat} (hk : k < l.length) (he : eqN (atFD l k).1 nm = true) : placeF l nm = k := by
  refine placeF_eq hk he (fun j hj => eqN_ne ?_)
  have h1 := names_below h k hk j hj
  rw [eqN_iff.1 he] at h1
  exact ltN_ne h1
def doD (D : DskD) (o : OD) : DskD × Int :=
  if ¬ (okD D = true ∧ opOk o = true) then (noD, 1) else
  if D.2.1 = 0 then (D, 2) else
  if fitsB (seenD D) o = false then (D, 3) else
  if 60 ≤ D.2.2.2.length then (D, 4) else
  if o.1 = 2 ∧ D.1 - (sizeF (seenD D) : Int) < (o.2.2.2.length : Int) then
    (if 0 < D.1 - (sizeF (seenD D) : Int) then (D.1, burnI D.2.1, D.2.2.1, D.2.2.2 ++ [(o.1, o.2.1, o.2.2.1, o.2.2.2.take (D.1 - (sizeF (seenD D) : Int)).toNat)]) else (D.1, burnI D.2.1, D.2.2.1, D.2.2.2), 5)
  else ((D.1, burnI D.2.1, D.2.2.1, D.2.2.2 ++ [o]), 0)
/-- A disk of the call's own beside a truth value, or beside a number. -/
def RetDkB (r : DskD × Bool) (w : World) (en : Ending) (w' : World) : Prop := ∃ y : DiskR, en = .returned (.tuple #[.agg #[.int .i64 y.room, .int .i64 y.fuse, .slice y.filesA y.filesN y.filesC, .slice y.waitA y.waitN y.waitC], .bool r.2]) ∧ datDisk y = r.1 ∧ OwnDisk w.heap.size w'.heap.size w' y ∧ bulkDisk y ≤ 1048576 ∧ Below w.heap.size w w'
def RetDkI (r : DskD × Int) (w : World) (en : Ending) (w' : World) : Prop := ∃ y : DiskR, en = .returned (.tuple #[.agg #[.int .i64 y.room, .int .i64 y.fuse, .slice y.filesA y.filesN y.filesC, .slice y.waitA y.waitN y.waitC], .int .i64 r.2]) ∧ datDisk y = r.1 ∧ OwnDisk w.heap.size w'.heap.size w' y ∧ bulkDisk y ≤ 1048576 ∧ Below w.heap.size w w'
def noR : DiskR := ⟨0, 0, none, 0, 0, [], none, 0, 0, []⟩
theorem OwnDisk.none (lo : Nat) (w : World) (h : lo ≤ w.heap.size) : OwnDisk lo w.heap.size w noR :=
  ⟨⟨w.heap.size, h, Nat.le_refl _, OwnFileS.nil _ _, OwnFsOpS.nil _ _⟩, Nat.le_refl _⟩
theorem noR_bulk : bulkDisk noR ≤ 1048576 := by decide
theorem RetDkB.no {w w' : World} (hb : Below w.heap.size w w') : RetDkB (noD, false) w (.returned (.tuple #[.agg #[.int .i64 0, .int .i64 0, .slice Option.none 0 0, .slice Option.none 0 0], .bool false])) w' :=
  ⟨noR, rfl, rfl, OwnDisk.none _ _ hb.size, noR_bulk, hb⟩
theorem RetDkI.no {w w' : World} (hb : Below w.heap.size w w') : RetDkI (noD, 1) w (.returned (.tuple #[.agg #[.int .i64 0, .int .i64 0, .slice Option.none 0 0, .slice Option.none 0 0], .int .i64 1])) w' :=
  ⟨noR, rfl, rfl, OwnDisk.none _ _ hb.size, noR_bulk, hb⟩
end Go.Proofs.Ytoodlmhnemamhaa

/- DiskSet of the reference and of the program. -/
namespace Go.Proofs.Ytoodlmhnemamhaa
open Go.RowKit
set_option maxRecDepth 100000 in
set_option maxHeartbeats 6400000 in
theorem diskSet_spec_k (y : DiskR) (D : DskD) (hD : datDisk y = D) (room fuse : Int) (w : World) (g : goodDisk w y) (hn : bulkDisk y ≤ 1048576) (g1 : In64 room) (g2 : In64 fuse) :
    Calls Try.prog 29 #[.agg #[.int .i64 y.room, .int .i64 y.fuse, .slice y.filesA y.filesN y.filesC, .slice y.waitA y.waitN y.waitC], .int .i64 room, .int .i64 fuse] w fun e w' => RetDkB (setD D room fuse) w e w' := by
  subst hD
  have hb0 := ((Below.refl w.heap.size w).alloc (Nat.le_refl _) (.cells #[.int .i64 y.room, .int .i64 y.fuse, .slice y.filesA y.filesN y.filesC, .slice y.waitA y.waitN y.waitC] 34)).alloc (by simp) (.cells #[.int .i64 0, .int .i64 0, .slice none 0 0, .slice none 0 0] 34)
  have HA0 := OutC.mk0 w (.int .i64 y.room) (.int .i64 y.fuse) (.slice y.filesA y.filesN y.filesC) (.slice y.waitA y.waitN y.waitC) 34
  have HB0 := OutC.mk0 (w.alloc (.cells #[.int .i64 y.room, .int .i64 y.fuse, .slice y.filesA y.filesN y.filesC, .slice y.waitA y.waitN y.waitC] 34)) (.int .i64 0) (.int .i64 0) (.slice none 0 0) (.slice none 0 0) 34
  rw [show (w.alloc (.cells #[.int .i64 y.room, .int .i64 y.fuse, .slice y.filesA y.filesN y.filesC, .slice y.waitA y.waitN y.waitC] 34)).heap.size = w.heap.size + 1 from by simp] at HB0
  have HA := Lib.hid (HA0.later ((Below.refl _ _).alloc (Nat.le_refl _) (.cells #[.int .i64 0, .int .i64 0, .slice none 0 0, .slice none 0 0] 34)))
  have HB := Lib.hid HB0
  have HG := Lib.hid (show goodDisk _ y from good_of_rd (rdDisk_below (goodDisk_rd g) hb0 (Nat.le_refl _)) (goodDisk_ok g))
  have HOK := Lib.hid (goodDisk_ok g)
  have HBU := Lib.hid (bulkDisk_dat (goodDisk_rd g))
  have G12 : Hid (In64 room ∧ In64 fuse) := Lib.hid ⟨g1, g2⟩
  have n1 := filesN_le hn
  have n2 := waitN_le hn
  have hz0 : w.heap.size + 2 = ((w.alloc (.cells #[.int .i64 y.room, .int .i64 y.fuse, .slice y.filesA y.filesN y.filesC, .slice y.waitA y.waitN y.waitC] 34)).alloc (.cells #[.int .i64 0, .int .i64 0, .slice none 0 0, .slice none 0 0] 34)).heap.size := by simp
  unfold In64 at g1 g2
  clear HA0 HB0 g
  go_enter Try.func29, Try.ntmps29
  go_wp2_with fail
  generalize (w.alloc (.cells #[.int .i64 y.room, .int .i64 y.fuse, .slice y.filesA y.filesN y.filesC, .slice y.waitA y.waitN y.waitC] 34)).alloc (.cells #[.int .i64 0, .int .i64 0, .slice none 0 0, .slice none 0 0] 34) = W0 at *
  refine (l02Copy_any y _ (goodDisk_rd HG.out) hn n1 n2).mono ?_
  rintro e w1 ⟨y2, rfl, hd, ho, hb1⟩
  have HD2 := Lib.hid hd
  have HO2 := Lib.hid ho
  have BB1 := hb0.trans (hb1.mono hb0.size)
  have hs1 : w.heap.size + 2 ≤ w1.heap.size := by have := hb1.size; omega
  have hbC := (Below.refl w1.heap.size w1).alloc (Nat.le_refl _) (.cells #[.int .i64 room, .int .i64 fuse, .slice y2.filesA y2.filesN y2.filesC, .slice y2.waitA y2.waitN y2.waitC] 34)
  have HC := Lib.hid (OutC.mk0 w1 (.int .i64 room) (.int .i64 fuse) (.slice y2.filesA y2.filesN y2.filesC) (.slice y2.waitA y2.waitN y2.waitC) 34)
  have HA1 := Lib.hid ((HA.out.later hb1).later hbC)
  have HB1 := Lib.hid ((HB.out.later hb1).later hbC)
  have HG2 := Lib.hid (show goodDisk _ y from goodDisk_below (goodDisk_below HG.out hb1 (Nat.le_refl _)) hbC (Nat.le_refl _))
  have HO3 := Lib.hid ((HO2.out.below hbC).lo_le (show w.heap.size + 2 ≤ W0.heap.size by omega))
  have BBC := BB1.trans (hbC.mono BB1.size)
  have hsC : w1.heap.size < (w1.alloc (.cells #[.int .i64 room, .int .i64 fuse, .slice y2.filesA y2.filesN y2.filesC, .slice y2.waitA y2.waitN y2.waitC] 34)).heap.size := by simp
  obtain ⟨a0, a1, a2, a3, _⟩ := HA1.out
  clear hd ho hb1 hb0 HA HB HO2
  go_wp2_with fail
  generalize w1.alloc (.cells #[.int .i64 room, .int .i64 fuse, .slice y2.filesA y2.filesN y2.filesC, .slice y2.waitA y2.waitN y2.waitC] 34) = W2 at *
  clear a0 a1 a2 a3
  refine (diskOk_spec_k y _ rfl _ HG2.out hn).mono ?_
  rintro e w3 ⟨rfl, hb3⟩
  have HB3 := Lib.hid (HB1.out.later hb3)
  have BB3 := BBC.trans (hb3.mono BBC.size)
  obtain ⟨b0, b1, b2, b3, bf⟩ := HB3.out
  have p0 := bf 0 (by omega)
  have p1 := bf 1 (by omega)
  have p2 := bf 2 (by omega)
  have p3 := bf 3 (by omega)
  clear bf
  cases hq : diskB (datDisk y).1 (datDisk y).2.1 (datDisk y).2.2.1 (datDisk y).2.2.2 with
  | false =>
    have HX : Hid (setD (datDisk y) room fuse = (noD, false)) := Lib.hid (setD_no (by rw [show okD (datDisk y) = false from hq]; simp))
    clear hq
    go_wp2
    refine bodyPost_ret (v := .tuple #[.agg #[.int .i64 0, .int .i64 0, .slice none 0 0, .slice none 0 0], .bool false]) (by simp [results, Try.results29, go_sem, b0, b1, b2, b3]) rfl ?_
    rw [HX.out]
    exact RetDkB.no (BB3.trans ((win_four w3 (w.heap.size + 1) (w.heap.size + 1) (w.heap.size + 2) (Nat.le_refl _) (by omega) (.int .i64 0) (.int .i64 0) (.slice none 0 0) (.slice none 0 0)).below (by omega) BB3.size))
  | true =>
    have HQ := Lib.hid hq
    obtain ⟨c0, c1, c2, c3, _⟩ := HC.out.later hb3
    have HO5 := Lib.hid (HO3.out.below hb3)
    have HBY : Hid (bulkDisk (⟨room, fuse, y2.filesA, y2.filesN, y2.filesC, y2.files, y2.waitA, y2.waitN, y2.waitC, y2.wait⟩ : DiskR) ≤ 1048576) := Lib.hid (by
      show bulkDisk y2 ≤ 1048576
      rw [bulkDisk_dat HO5.out.rd, HD2.out, ← HBU.out]
      exact hn)
    have HG3 : Hid (goodDisk w3 (⟨room, fuse, y2.filesA, y2.filesN, y2.filesC, y2.files, y2.waitA, y2.waitN, y2.waitC, y2.wait⟩ : DiskR)) := Lib.hid (by
      have h1 := okDisk_dat HOK.out HD2.out
      exact good_of_rd (y := (⟨room, fuse, y2.filesA, y2.filesN, y2.filesC, y2.files, y2.waitA, y2.waitN, y2.waitC, y2.wait⟩ : DiskR)) HO5.out.rd ⟨G12.out.1, G12.out.2, h1.2.2.1, h1.2.2.2⟩)
    have HE : Hid (datDisk (⟨room, fuse, y2.filesA, y2.filesN, y2.filesC, y2.files, y2.waitA, y2.waitN, y2.waitC, y2.wait⟩ : DiskR) = (room, fuse, (datDisk y).2.2.1, (datDisk y).2.2.2)) := Lib.hid (by
      rw [← HD2.out]
      rfl)
    have hsW : w1.heap.size < w3.heap.size := by have := hb3.size; omega
    clear hq
    go_wp2_with fail
    refine (diskOk_spec_k (⟨room, fuse, y2.filesA, y2.filesN, y2.filesC, y2.files, y2.waitA, y2.waitN, y2.waitC, y2.wait⟩ : DiskR) _ HE.out _ HG3.out HBY.out).mono ?_
    rintro e w4 ⟨rfl, hb4⟩
    have BB4 := BB3.trans (hb4.mono BB3.size)
    have HB4 := Lib.hid (HB3.out.later hb4)
    have HC4 := Lib.hid ((HC.out.later hb3).later hb4)
    clear b0 b1 b2 b3 p0 p1 p2 p3 c0 c1 c2 c3
    obtain ⟨b0, b1, b2, b3, bf⟩ := HB4.out
    have p0 := bf 0 (by omega)
    have p1 := bf 1 (by omega)
    have p2 := bf 2 (by omega)
    have p3 := bf 3 (by omega)
    clear bf
    cases hq2 : diskB room fuse (datDisk y).2.2.1 (datDisk y).2.2.2 with
    | false =>
      have HX : Hid (setD (datDisk y) room fuse = (noD, false)) := Lib.hid (setD_no (by rw [show okD (room, fuse, (datDisk y).2.2.1, (datDisk y).2.2.2) = false from hq2]; simp))
      clear hq2
      go_wp2
      refine bodyPost_ret (v := .tuple #[.agg #[.int .i64 0, .int .i64 0, .slice none 0 0, .slice none 0 0], .bool false]) (by simp [results, Try.results29, go_sem, b0, b1, b2, b3]) rfl ?_
      rw [HX.out]
      exact RetDkB.no (BB4.trans ((win_four w4 (w.heap.size + 1) (w.heap.size + 1) (w.heap.size + 2) (Nat.le_refl _) (by omega) (.int .i64 0) (.int .i64 0) (.slice none 0 0) (.slice none 0 0)).below (by omega) BB4.size))
    | true =>
      have HX : Hid (setD (datDisk y) room fuse = ((room, fuse, (datDisk y).2.2.1, (datDisk y).2.2.2), true)) := Lib.hid (setD_yes HQ.out hq2)
      clear hq2
      obtain ⟨c0, c1, c2, c3, _⟩ := HC4.out
      go_wp2
      refine bodyPost_ret (v := .tuple #[.agg #[.int .i64 room, .int .i64 fuse, .slice y2.filesA y2.filesN y2.filesC, .slice y2.waitA y2.waitN y2.waitC], .bool true]) (by simp [results, Try.results29, go_sem, b0, b1, b2, b3]) rfl ?_
      rw [HX.out]
      have hw4 := win_four w4 (w.heap.size + 1) (w.heap.size + 1) (w.heap.size + 2) (Nat.le_refl _) (by omega) (.int .i64 room) (.int .i64 fuse) (.slice y2.filesA y2.filesN y2.filesC) (.slice y2.waitA y2.waitN y2.waitC)
      have h6 := (HO5.out.below hb4).win hw4 (Or.inl (Nat.le_refl _))
      have h7 := (h6.lo_le (lo' := w.heap.size) (by omega)).grow (hi' := _) (by have := hb4.size; simp only [size_set]; omega) (Nat.le_refl _)
      exact ⟨⟨room, fuse, y2.filesA, y2.filesN, y2.filesC, y2.files, y2.waitA, y2.waitN, y2.waitC, y2.wait⟩, rfl, HE.out, ⟨h7.mid, h7.top⟩, HBY.out, BB4.trans (hw4.below (by omega) BB4.size)⟩
set_option maxRecDepth 100000 in
set_option maxHeartbeats 6400000 in
theorem diskSet_impl_k (y : DiskR) (D : DskD) (hD : datDisk y = D) (room fuse : Int) (w : World) (g : goodDisk w y) (hn : bulkDisk y ≤ 1048576) (g1 : In64 room) (g2 : In64 fuse) :
    Calls Try.prog 30 #[.agg #[.int .i64 y.room, .int .i64 y.fuse, .slice y.filesA y.filesN y.filesC, .slice y.waitA y.waitN y.waitC], .int .i64 room, .int .i64 fuse] w fun e w' => RetDkB (setD D room fuse) w e w' := by
  subst hD
  have hb0 := ((Below.refl w.heap.size w).alloc (Nat.le_refl _) (.cells #[.int .i64 y.room, .int .i64 y.fuse, .slice y.filesA y.filesN y.filesC, .slice y.waitA y.waitN y.waitC] 34)).alloc (by simp) (.cells #[.int .i64 0, .int .i64 0, .slice none 0 0, .slice none 0 0] 34)
  have HA0 := OutC.mk0 w (.int .i64 y.room) (.int .i64 y.fuse) (.slice y.filesA y.filesN y.filesC) (.slice y.waitA y.waitN y.waitC) 34
  have HB0 := OutC.mk0 (w.alloc (.cells #[.int .i64 y.room, .int .i64 y.fuse, .slice y.filesA y.filesN y.filesC, .slice y.waitA y.waitN y.waitC] 34)) (.int .i64 0) (.int .i64 0) (.slice none 0 0) (.slice none 0 0) 34
  rw [show (w.alloc (.cells #[.int .i64 y.room, .int .i64 y.fuse, .slice y.filesA y.filesN y.filesC, .slice y.waitA y.waitN y.waitC] 34)).heap.size = w.heap.size + 1 from by simp] at HB0
  have HA := Lib.hid (HA0.later ((Below.refl _ _).alloc (Nat.le_refl _) (.cells #[.int .i64 0, .int .i64 0, .slice none 0 0, .slice none 0 0] 34)))
  have HB := Lib.hid HB0
  have HG := Lib.hid (show goodDisk _ y from good_of_rd (rdDisk_below (goodDisk_rd g) hb0 (Nat.le_refl _)) (goodDisk_ok g))
  have HOK := Lib.hid (goodDisk_ok g)
  have HBU := Lib.hid (bulkDisk_dat (goodDisk_rd g))
  have G12 : Hid (In64 room ∧ In64 fuse) := Lib.hid ⟨g1, g2⟩
  have n1 := filesN_le hn
  have n2 := waitN_le hn
  have hz0 : w.heap.size + 2 = ((w.alloc (.cells #[.int .i64 y.room, .int .i64 y.fuse, .slice y.filesA y.filesN y.filesC, .slice y.waitA y.waitN y.waitC] 34)).alloc (.cells #[.int .i64 0, .int .i64 0, .slice none 0 0, .slice none 0 0] 34)).heap.size := by simp
  unfold In64 at g1 g2
  clear HA0 HB0 g
  go_enter Try.func30, Try.ntmps30
  go_wp2_with fail
  generalize (w.alloc (.cells #[.int .i64 y.room, .int .i64 y.fuse, .slice y.filesA y.filesN y.filesC, .slice y.waitA y.waitN y.waitC] 34)).alloc (.cells #[.int .i64 0, .int .i64 0, .slice none 0 0, .slice none 0 0] 34) = W0 at *
  refine (copyDisk_any y _ (goodDisk_rd HG.out) hn n1 n2).mono ?_
  rintro e w1 ⟨y2, rfl, hd, ho, hb1⟩
  have HD2 := Lib.hid hd
  have HO2 := Lib.hid ho
  have BB1 := hb0.trans (hb1.mono hb0.size)
  have hs1 : w.heap.size + 2 ≤ w1.heap.size := by have := hb1.size; omega
  have hbC := (Below.refl w1.heap.size w1).alloc (Nat.le_refl _) (.cells #[.int .i64 room, .int .i64 fuse, .slice y2.filesA y2.filesN y2.filesC, .slice y2.waitA y2.waitN y2.waitC] 34)
  have HC := Lib.hid (OutC.mk0 w1 (.int .i64 room) (.int .i64 fuse) (.slice y2.filesA y2.filesN y2.filesC) (.slice y2.waitA y2.waitN y2.waitC) 34)
  have HA1 := Lib.hid ((HA.out.later hb1).later hbC)
  have HB1 := Lib.hid ((HB.out.later hb1).later hbC)
  have HG2 := Lib.hid (show goodDisk _ y from goodDisk_below (goodDisk_below HG.out hb1 (Nat.le_refl _)) hbC (Nat.le_refl _))
  have HO3 := Lib.hid ((HO2.out.below hbC).lo_le (show w.heap.size + 2 ≤ W0.heap.size by omega))
  have BBC := BB1.trans (hbC.mono BB1.size)
  have hsC : w1.heap.size < (w1.alloc (.cells #[.int .i64 room, .int .i64 fuse, .slice y2.filesA y2.filesN y2.filesC, .slice y2.waitA y2.waitN y2.waitC] 34)).heap.size := by simp
  obtain ⟨a0, a1, a2, a3, _⟩ := HA1.out
  clear hd ho hb1 hb0 HA HB HO2
  go_wp2_with fail
  generalize w1.alloc (.cells #[.int .i64 room, .int .i64 fuse, .slice y2.filesA y2.filesN y2.filesC, .slice y2.waitA y2.waitN y2.waitC] 34) = W2 at *
  clear a0 a1 a2 a3
  refine (diskOk_impl_k y _ rfl _ HG2.out hn).mono ?_
  rintro e w3 ⟨rfl, hb3⟩
  have HB3 := Lib.hid (HB1.out.later hb3)
  have BB3 := BBC.trans (hb3.mono BBC.size)
  obtain ⟨b0, b1, b2, b3, bf⟩ := HB3.out
  have p0 := bf 0 (by omega)
  have p1 := bf 1 (by omega)
  have p2 := bf 2 (by omega)
  have p3 := bf 3 (by omega)
  clear bf
  cases hq : diskB (datDisk y).1 (datDisk y).2.1 (datDisk y).2.2.1 (datDisk y).2.2.2 with
  | false =>
    have HX : Hid (setD (datDisk y) room fuse = (noD, false)) := Lib.hid (setD_no (by rw [show okD (datDisk y) = false from hq]; simp))
    clear hq
    go_wp2
    refine bodyPost_ret (v := .tuple #[.agg #[.int .i64 0, .int .i64 0, .slice none 0 0, .slice none 0 0], .bool false]) (by simp [results, Try.results30, go_sem, b0, b1, b2, b3]) rfl ?_
    rw [HX.out]
    exact RetDkB.no (BB3.trans ((win_four w3 (w.heap.size + 1) (w.heap.size + 1) (w.heap.size + 2) (Nat.le_refl _) (by omega) (.int .i64 0) (.int .i64 0) (.slice none 0 0) (.slice none 0 0)).below (by omega) BB3.size))
  | true =>
    have HQ := Lib.hid hq
    obtain ⟨c0, c1, c2, c3, _⟩ := HC.out.later hb3
    have HO5 := Lib.hid (HO3.out.below hb3)
    have HBY : Hid (bulkDisk (⟨room, fuse, y2.filesA, y2.filesN, y2.filesC, y2.files, y2.waitA, y2.waitN, y2.waitC, y2.wait⟩ : DiskR) ≤ 1048576) := Lib.hid (by
      show bulkDisk y2 ≤ 1048576
      rw [bulkDisk_dat HO5.out.rd, HD2.out, ← HBU.out]
      exact hn)
    have HG3 : Hid (goodDisk w3 (⟨room, fuse, y2.filesA, y2.filesN, y2.filesC, y2.files, y2.waitA, y2.waitN, y2.waitC, y2.wait⟩ : DiskR)) := Lib.hid (by
      have h1 := okDisk_dat HOK.out HD2.out
      exact good_of_rd (y := (⟨room, fuse, y2.filesA, y2.filesN, y2.filesC, y2.files, y2.waitA, y2.waitN, y2.waitC, y2.wait⟩ : DiskR)) HO5.out.rd ⟨G12.out.1, G12.out.2, h1.2.2.1, h1.2.2.2⟩)
    have HE : Hid (datDisk (⟨room, fuse, y2.filesA, y2.filesN, y2.filesC, y2.files, y2.waitA, y2.waitN, y2.waitC, y2.wait⟩ : DiskR) = (room, fuse, (datDisk y).2.2.1, (datDisk y).2.2.2)) := Lib.hid (by
      rw [← HD2.out]
      rfl)
    have hsW : w1.heap.size < w3.heap.size := by have := hb3.size; omega
    clear hq
    go_wp2_with fail
    refine (diskOk_impl_k (⟨room, fuse, y2.filesA, y2.filesN, y2.filesC, y2.files, y2.waitA, y2.waitN, y2.waitC, y2.wait⟩ : DiskR) _ HE.out _ HG3.out HBY.out).mono ?_
    rintro e w4 ⟨rfl, hb4⟩
    have BB4 := BB3.trans (hb4.mono BB3.size)
    have HB4 := Lib.hid (HB3.out.later hb4)
    have HC4 := Lib.hid ((HC.out.later hb3).later hb4)
    clear b0 b1 b2 b3 p0 p1 p2 p3 c0 c1 c2 c3
    obtain ⟨b0, b1, b2, b3, bf⟩ := HB4.out
    have p0 := bf 0 (by omega)
    have p1 := bf 1 (by omega)
    have p2 := bf 2 (by omega)
    have p3 := bf 3 (by omega)
    clear bf
    cases hq2 : diskB room fuse (datDisk y).2.2.1 (datDisk y).2.2.2 with
    | false =>
      have HX : Hid (setD (datDisk y) room fuse = (noD, false)) := Lib.hid (setD_no (by rw [show okD (room, fuse, (datDisk y).2.2.1, (datDisk y).2.2.2) = false from hq2]; simp))
      clear hq2
      go_wp2
      refine bodyPost_ret (v := .tuple #[.agg #[.int .i64 0, .int .i64 0, .slice none 0 0, .slice none 0 0], .bool false]) (by simp [results, Try.results30, go_sem, b0, b1, b2, b3]) rfl ?_
      rw [HX.out]
      exact RetDkB.no (BB4.trans ((win_four w4 (w.heap.size + 1) (w.heap.size + 1) (w.heap.size + 2) (Nat.le_refl _) (by omega) (.int .i64 0) (.int .i64 0) (.slice none 0 0) (.slice none 0 0)).below (by omega) BB4.size))
    | true =>
      have HX : Hid (setD (datDisk y) room fuse = ((room, fuse, (datDisk y).2.2.1, (datDisk y).2.2.2), true)) := Lib.hid (setD_yes HQ.out hq2)
      clear hq2
      obtain ⟨c0, c1, c2, c3, _⟩ := HC4.out
      go_wp2
      refine bodyPost_ret (v := .tuple #[.agg #[.int .i64 room, .int .i64 fuse, .slice y2.filesA y2.filesN y2.filesC, .slice y2.waitA y2.waitN y2.waitC], .bool true]) (by simp [results, Try.results30, go_sem, b0, b1, b2, b3]) rfl ?_
      rw [HX.out]
      have hw4 := win_four w4 (w.heap.size + 1) (w.heap.size + 1) (w.heap.size + 2) (Nat.le_refl _) (by omega) (.int .i64 room) (.int .i64 fuse) (.slice y2.filesA y2.filesN y2.filesC) (.slice y2.waitA y2.waitN y2.waitC)
      have h6 := (HO5.out.below hb4).win hw4 (Or.inl (Nat.le_refl _))
      have h7 := (h6.lo_le (lo' := w.heap.size) (by omega)).grow (hi' := _) (by have := hb4.size; simp only [size_set]; omega) (Nat.le_refl _)
      exact ⟨⟨room, fuse, y2.filesA, y2.filesN, y2.filesC, y2.files, y2.waitA, y2.waitN, y2.waitC, y2.wait⟩, rfl, HE.out, ⟨h7.mid, h7.top⟩, HBY.out, BB4.trans (hw4.below (by omega) BB4.size)⟩
end Go.Proofs.Ytoodlmhnemamhaa

/- FnExactDiskSet: the walk of the law out of the contracts of what it calls. -/
namespace Go.Proofs.Ytoodlmhnemamhaa
open Go.RowKit
set_option linter.unusedVariables false in
set_option maxRecDepth 100000 in
set_option maxHeartbeats 6400000 in
theorem walk_FnExactDiskSet (y0 : DiskR) (x1 : Int) (x2 : Int) (w : World) (g0 : goodDisk w y0) (g1 : In64 x1) (g2 : In64 x2) :
    Calls Try.prog 7 #[.agg #[.int .i64 y0.room, .int .i64 y0.fuse, .slice y0.filesA y0.filesN y0.filesC, .slice y0.waitA y0.waitN y0.waitC], .int .i64 x1, .int .i64 x2] w fun e w' => e = .returned (.bool true) ∧ Below w.heap.size w w' := by
  by_cases hg0 : bulkDisk y0 ≤ 1048576
  · have BB0 := Below.refl w.heap.size w
    have okY0 := goodDisk_ok g0
    have hn0 : bulkDisk y0 ≤ 1048576 := by omega
    go_enter Try.func7, Try.ntmps7
    have HL0 := Lib.hid (leftB_yes (left := 1048576) (n := bulkDisk y0) (by omega))
    have ha1 := ((Below.refl w.heap.size w).alloc (Nat.le_refl _) (.cells #[.int .i64 y0.room, .int .i64 y0.fuse, .slice y0.filesA y0.filesN y0.filesC, .slice y0.waitA y0.waitN y0.waitC] 43))
    have BP1 := BB0.trans (ha1.mono BB0.size)
    go_wp2_with fail
    refine (szDisk_k y0 _ _ (rdDisk_below (goodDisk_rd g0) BP1 (Nat.le_refl _)) (goodDisk_str g0) (by omega) (by omega)).mono ?_
    rintro e w1 ⟨rfl, hb1⟩
    rw [HL0.out]
    have hx1 : Below w.heap.size w w1 := ha1.trans (hb1.mono ha1.size)
    have szz1 : w.heap.size + 1 ≤ w1.heap.size := by have := hb1.size; simp at this; omega
    obtain ⟨hc1, hf1⟩ := bcell hb1
    have c1_a0_0 : w1.cell? ⟨w.heap.size, 0, none⟩ = some (.int .i64 y0.room) := by rw [hc1 _ _ (by simp)]; simp [go_sem]
    have c1_a0_1 : w1.cell? ⟨w.heap.size, 1, none⟩ = some (.int .i64 y0.fuse) := by rw [hc1 _ _ (by simp)]; simp [go_sem]
    have c1_a0_2 : w1.cell? ⟨w.heap.size, 2, none⟩ = some (.slice y0.filesA y0.filesN y0.filesC) := by rw [hc1 _ _ (by simp)]; simp [go_sem]
    have c1_a0_3 : w1.cell? ⟨w.heap.size, 3, none⟩ = some (.slice y0.waitA y0.waitN y0.waitC) := by rw [hc1 _ _ (by simp)]; simp [go_sem]
    clear hc1 hf1
    have BB1 := BB0.trans (hx1.mono BB0.size)
    have sz1 := hx1.size
    go_wp2_with fail
    refine (toDisk_k y0 _ (rdDisk_below (goodDisk_rd g0) BB1 (Nat.le_refl _)) hn0).mono ?_
    rintro e w2 ⟨u0, rfl, hdu0, H2u0, hku0, hb2⟩
    have BB2 := BB1.trans (hb2.mono BB1.size)
    have sz2 := hb2.size
    have c2_a0_0 := cell_later hb2 c1_a0_0
    clear c1_a0_0
    have c2_a0_1 := cell_later hb2 c1_a0_1
    clear c1_a0_1
    have c2_a0_2 := cell_later hb2 c1_a0_2
    clear c1_a0_2
    have c2_a0_3 := cell_later hb2 c1_a0_3
    clear c1_a0_3
    have HDu0 := Lib.hid hdu0
    clear hdu0
    have oku0 := okDisk_dat okY0 HDu0.out
    go_wp2_with fail
    refine (diskSet_spec_k u0 (datDisk y0) HDu0.out x1 x2 _ (H2u0.good oku0) (by rw [hku0]; exact hn0) g1 g2).mono ?_
    rintro e w3 ⟨W, rfl, hdW, H3W, hkW, hb3⟩
    have BB3 := BB2.trans (hb3.mono BB2.size)
    have sz3 := hb3.size
    have H3u0 := H2u0.below hb3
    clear H2u0
    have c3_a0_0 := cell_later hb3 c2_a0_0
    clear c2_a0_0
    have c3_a0_1 := cell_later hb3 c2_a0_1
    clear c2_a0_1
    have c3_a0_2 := cell_later hb3 c2_a0_2
    clear c2_a0_2
    have c3_a0_3 := cell_later hb3 c2_a0_3
    clear c2_a0_3
    have HDW := Lib.hid hdW
    clear hdW
    have hl4_a0_0 := World.block_lt_of_cell? _ _ c3_a0_0
    simp only at hl4_a0_0
    have ha4 := ((Below.refl w3.heap.size w3).alloc (Nat.le_refl _) (.cells #[.int .i64 W.room, .int .i64 W.fuse, .slice W.filesA W.filesN W.filesC, .slice W.waitA W.waitN W.waitC] 34))
    have BP4 := BB3.trans (ha4.mono BB3.size)
    go_wp2_with fail
    refine (toDisk_k y0 _ (rdDisk_below (goodDisk_rd g0) BP4 (Nat.le_refl _)) hn0).mono ?_
    rintro e w4 ⟨x0, rfl, hdx0, H4x0, hkx0, hb4⟩
    have hx4 : Below w3.heap.size w3 w4 := ha4.trans (hb4.mono ha4.size)
    have szz4 : w3.heap.size + 1 ≤ w4.heap.size := by have := hb4.size; simp at this; omega
    obtain ⟨hc4, hf4⟩ := bcell hb4
    have c4_W_0 : w4.cell? ⟨w3.heap.size, 0, none⟩ = some (.int .i64 W.room) := by rw [hc4 _ _ (by simp)]; simp [go_sem]
    have c4_W_1 : w4.cell? ⟨w3.heap.size, 1, none⟩ = some (.int .i64 W.fuse) := by rw [hc4 _ _ (by simp)]; simp [go_sem]
    have c4_W_2 : w4.cell? ⟨w3.heap.size, 2, none⟩ = some (.slice W.filesA W.filesN W.filesC) := by rw [hc4 _ _ (by simp)]; simp [go_sem]
    have c4_W_3 : w4.cell? ⟨w3.heap.size, 3, none⟩ = some (.slice W.waitA W.waitN W.waitC) := by rw [hc4 _ _ (by simp)]; simp [go_sem]
    clear hc4 hf4
    have BB4 := BB3.trans (hx4.mono BB3.size)
    have sz4 := hx4.size
    have H4W := H3W.below hx4
    clear H3W
    have c4_a0_0 := cell_later hx4 c3_a0_0
    clear c3_a0_0
    have c4_a0_1 := cell_later hx4 c3_a0_1
    clear c3_a0_1
    have c4_a0_2 := cell_later hx4 c3_a0_2
    clear c3_a0_2
    have c4_a0_3 := cell_later hx4 c3_a0_3
    clear c3_a0_3
    replace H4x0 := H4x0.lo_le (lo' := w3.heap.size + 1) (by simp)
    have HDx0 := Lib.hid hdx0
    clear hdx0
    have okx0 := okDisk_dat okY0 HDx0.out
    have hl5_a0_0 := World.block_lt_of_cell? _ _ c4_a0_0
    simp only at hl5_a0_0
    have hl5_W_0 := World.block_lt_of_cell? _ _ c4_W_0
    simp only at hl5_W_0
    have ha5 := ((Below.refl w4.heap.size w4).alloc (Nat.le_refl _) (.cells #[.int .i64 x0.room, .int .i64 x0.fuse, .slice x0.filesA x0.filesN x0.filesC, .slice x0.waitA x0.waitN x0.waitC] 34))
    have BP5 := BB4.trans (ha5.mono BB4.size)
    go_wp2_with fail
    refine (diskSet_impl_k x0 (datDisk y0) HDx0.out x1 x2 _ ((H4x0.below ha5).good okx0) (by rw [hkx0]; exact hn0) g1 g2).mono ?_
    rintro e w5 ⟨G, rfl, hdG, H5G, hkG, hb5⟩
    have hx5 : Below w4.heap.size w4 w5 := ha5.trans (hb5.mono ha5.size)
    have szz5 : w4.heap.size + 1 ≤ w5.heap.size := by have := hb5.size; simp at this; omega
    obtain ⟨hc5, hf5⟩ := bcell hb5
    have c5_x0_0 : w5.cell? ⟨w4.heap.size, 0, none⟩ = some (.int .i64 x0.room) := by rw [hc5 _ _ (by simp)]; simp [go_sem]
    have c5_x0_1 : w5.cell? ⟨w4.heap.size, 1, none⟩ = some (.int .i64 x0.fuse) := by rw [hc5 _ _ (by simp)]; simp [go_sem]
    have c5_x0_2 : w5.cell? ⟨w4.heap.size, 2, none⟩ = some (.slice x0.filesA x0.filesN x0.filesC) := by rw [hc5 _ _ (by simp)]; simp [go_sem]
    have c5_x0_3 : w5.cell? ⟨w4.heap.size, 3, none⟩ = some (.slice x0.waitA x0.waitN x0.waitC) := by rw [hc5 _ _ (by simp)]; simp [go_sem]
    clear hc5 hf5
    have BB5 := BB4.trans (hx5.mono BB4.size)
    have sz5 := hx5.size
    have H5W := H4W.below hx5
    clear H4W
    have H5x0 := H4x0.below hx5
    clear H4x0
    have c5_a0_0 := cell_later hx5 c4_a0_0
    clear c4_a0_0
    have c5_a0_1 := cell_later hx5 c4_a0_1
    clear c4_a0_1
    have c5_a0_2 := cell_later hx5 c4_a0_2
    clear c4_a0_2
    have c5_a0_3 := cell_later hx5 c4_a0_3
    clear c4_a0_3
    have c5_W_0 := cell_later hx5 c4_W_0
    clear c4_W_0
    have c5_W_1 := cell_later hx5 c4_W_1
    clear c4_W_1
    have c5_W_2 := cell_later hx5 c4_W_2
    clear c4_W_2
    have c5_W_3 := cell_later hx5 c4_W_3
    clear c4_W_3
    replace H5G := H5G.lo_le (lo' := w4.heap.size + 1) (by simp)
    have HDG := Lib.hid hdG
    clear hdG
    have hl6_a0_0 := World.block_lt_of_cell? _ _ c5_a0_0
    simp only at hl6_a0_0
    have hl6_W_0 := World.block_lt_of_cell? _ _ c5_W_0
    simp only at hl6_W_0
    have hl6_x0_0 := World.block_lt_of_cell? _ _ c5_x0_0
    simp only at hl6_x0_0
    have ha6 := ((Below.refl w5.heap.size w5).alloc (Nat.le_refl _) (.cells #[.int .i64 G.room, .int .i64 G.fuse, .slice G.filesA G.filesN G.filesC, .slice G.waitA G.waitN G.waitC] 34))
    have BP6 := BB5.trans (ha6.mono BB5.size)
    go_wp2_with fail
    refine (eqDisk_k G W _ _ HDG.out HDW.out _ (H5G.below ha6).rd (H5W.below ha6).rd).mono ?_
    rintro e w6 ⟨rfl, hb6⟩
    have hx6 : Below w5.heap.size w5 w6 := ha6.trans (hb6.mono ha6.size)
    have szz6 : w5.heap.size + 1 ≤ w6.heap.size := by have := hb6.size; simp at this; omega
    obtain ⟨hc6, hf6⟩ := bcell hb6
    have c6_G_0 : w6.cell? ⟨w5.heap.size, 0, none⟩ = some (.int .i64 G.room) := by rw [hc6 _ _ (by simp)]; simp [go_sem]
    have c6_G_1 : w6.cell? ⟨w5.heap.size, 1, none⟩ = some (.int .i64 G.fuse) := by rw [hc6 _ _ (by simp)]; simp [go_sem]
    have c6_G_2 : w6.cell? ⟨w5.heap.size, 2, none⟩ = some (.slice G.filesA G.filesN G.filesC) := by rw [hc6 _ _ (by simp)]; simp [go_sem]
    have c6_G_3 : w6.cell? ⟨w5.heap.size, 3, none⟩ = some (.slice G.waitA G.waitN G.waitC) := by rw [hc6 _ _ (by simp)]; simp [go_sem]
    clear hc6 hf6
    have BB6 := BB5.trans (hx6.mono BB5.size)
    have sz6 := hx6.size
    have H6W := H5W.below hx6
    clear H5W
    have H6x0 := H5x0.below hx6
    clear H5x0
    have H6G := H5G.below hx6
    clear H5G
    have c6_a0_0 := cell_later hx6 c5_a0_0
    clear c5_a0_0
    have c6_a0_1 := cell_later hx6 c5_a0_1
    clear c5_a0_1
    have c6_a0_2 := cell_later hx6 c5_a0_2
    clear c5_a0_2
    have c6_a0_3 := cell_later hx6 c5_a0_3
    clear c5_a0_3
    have c6_W_0 := cell_later hx6 c5_W_0
    clear c5_W_0
    have c6_W_1 := cell_later hx6 c5_W_1
    clear c5_W_1
    have c6_W_2 := cell_later hx6 c5_W_2
    clear c5_W_2
    have c6_W_3 := cell_later hx6 c5_W_3
    clear c5_W_3
    have c6_x0_0 := cell_later hx6 c5_x0_0
    clear c5_x0_0
    have c6_x0_1 := cell_later hx6 c5_x0_1
    clear c5_x0_1
    have c6_x0_2 := cell_later hx6 c5_x0_2
    clear c5_x0_2
    have c6_x0_3 := cell_later hx6 c5_x0_3
    clear c5_x0_3
    go_wp2_with fail
    go_region_held3 (fun w' => w'.cell? ⟨w.heap.size, 0, none⟩ = some (.int .i64 y0.room) ∧ w'.cell? ⟨w.heap.size, 1, none⟩ = some (.int .i64 y0.fuse) ∧ w'.cell? ⟨w.heap.size, 2, none⟩ = some (.slice y0.filesA y0.filesN y0.filesC) ∧ w'.cell? ⟨w.heap.size, 3, none⟩ = some (.slice y0.waitA y0.waitN y0.waitC) ∧ w'.cell? ⟨w4.heap.size, 0, none⟩ = some (.int .i64 x0.room) ∧ w'.cell? ⟨w4.heap.size, 1, none⟩ = some (.int .i64 x0.fuse) ∧ w'.cell? ⟨w4.heap.size, 2, none⟩ = some (.slice x0.filesA x0.filesN x0.filesC) ∧ w'.cell? ⟨w4.heap.size, 3, none⟩ = some (.slice x0.waitA x0.waitN x0.waitC) ∧ Below w6.heap.size w6 w') (first | exact keepd8 (by assumption) | exact keep8 (by assumption) (Nat.le_refl _) (by assumption) | exact ⟨c6_a0_0, c6_a0_1, c6_a0_2, c6_a0_3, c6_x0_0, c6_x0_1, c6_x0_2, c6_x0_3, (Below.refl _ _).drew⟩) (first | (go_at_call 22; refine (toDisk_k y0 _ (rdDisk_below (goodDisk_rd g0) (BB6.trans ((tail8 (by assumption) : Below w6.heap.size w6 _).mono BB6.size)) (Nat.le_refl _)) hn0).mono ?_; rintro e wa ⟨t, rfl, hdt, Ht, hkt, hba⟩) | (go_at_call 17; refine (eqDisk_k x0 t _ _ HDx0.out hdt _ (H6x0.below (tail8 (by assumption) : Below w6.heap.size w6 _)).rd Ht.rd).mono ?_; rintro e wb ⟨rfl, hbb⟩))
    have hb7 : Below w6.heap.size w6 _ := tail8 (by assumption)
    have BB7 := BB6.trans (hb7.mono BB6.size)
    have sz7 := hb7.size
    have H7W := H6W.below hb7
    clear H6W
    have H7x0 := H6x0.below hb7
    clear H6x0
    have H7G := H6G.below hb7
    clear H6G
    have c7_a0_0 := cell_later hb7 c6_a0_0
    clear c6_a0_0
    have c7_a0_1 := cell_later hb7 c6_a0_1
    clear c6_a0_1
    have c7_a0_2 := cell_later hb7 c6_a0_2
    clear c6_a0_2
    have c7_a0_3 := cell_later hb7 c6_a0_3
    clear c6_a0_3
    have c7_W_0 := cell_later hb7 c6_W_0
    clear c6_W_0
    have c7_W_1 := cell_later hb7 c6_W_1
    clear c6_W_1
    have c7_W_2 := cell_later hb7 c6_W_2
    clear c6_W_2
    have c7_W_3 := cell_later hb7 c6_W_3
    clear c6_W_3
    have c7_x0_0 := cell_later hb7 c6_x0_0
    clear c6_x0_0
    have c7_x0_1 := cell_later hb7 c6_x0_1
    clear c6_x0_1
    have c7_x0_2 := cell_later hb7 c6_x0_2
    clear c6_x0_2
    have c7_x0_3 := cell_later hb7 c6_x0_3
    clear c6_x0_3
    have c7_G_0 := cell_later hb7 c6_G_0
    clear c6_G_0
    have c7_G_1 := cell_later hb7 c6_G_1
    clear c6_G_1
    have c7_G_2 := cell_later hb7 c6_G_2
    clear c6_G_2
    have c7_G_3 := cell_later hb7 c6_G_3
    clear c6_G_3
    skip
    replace hkx0 : bulkDisk x0 ≤ 1048576 := by rw [hkx0]; exact hn0
    have cn0 := cntDisk_own H7x0 hkx0
    go_wp2_with fail
    refine (markDisk_k x0 (1) _ _ _ H7x0 hkx0 (by omega) (by omega)).mono ?_
    rintro e w8 ⟨rfl, HE8x0, hb8⟩
    have BB8 := BB7.trans (hb8.below (B := w.heap.size) (by omega) BB7.size)
    have sz8 := hb8.size
    have H8W := H7W.win hb8 (by omega)
    clear H7W
    have H8G := H7G.win hb8 (by omega)
    clear H7G
    have c8_a0_0 := cell_win hb8 c7_a0_0 (by omega)
    clear c7_a0_0
    have c8_a0_1 := cell_win hb8 c7_a0_1 (by omega)
    clear c7_a0_1
    have c8_a0_2 := cell_win hb8 c7_a0_2 (by omega)
    clear c7_a0_2
    have c8_a0_3 := cell_win hb8 c7_a0_3 (by omega)
    clear c7_a0_3
    have c8_W_0 := cell_win hb8 c7_W_0 (by omega)
    clear c7_W_0
    have c8_W_1 := cell_win hb8 c7_W_1 (by omega)
    clear c7_W_1
    have c8_W_2 := cell_win hb8 c7_W_2 (by omega)
    clear c7_W_2
    have c8_W_3 := cell_win hb8 c7_W_3 (by omega)
    clear c7_W_3
    have c8_x0_0 := cell_win hb8 c7_x0_0 (by omega)
    clear c7_x0_0
    have c8_x0_1 := cell_win hb8 c7_x0_1 (by omega)
    clear c7_x0_1
    have c8_x0_2 := cell_win hb8 c7_x0_2 (by omega)
    clear c7_x0_2
    have c8_x0_3 := cell_win hb8 c7_x0_3 (by omega)
    clear c7_x0_3
    have c8_G_0 := cell_win hb8 c7_G_0 (by omega)
    clear c7_G_0
    have c8_G_1 := cell_win hb8 c7_G_1 (by omega)
    clear c7_G_1
    have c8_G_2 := cell_win hb8 c7_G_2 (by omega)
    clear c7_G_2
    have c8_G_3 := cell_win hb8 c7_G_3 (by omega)
    clear c7_G_3
    go_wp2_with fail
    refine (eqDisk_k G W _ _ HDG.out HDW.out _ H8G.rd H8W.rd).mono ?_
    rintro e w9 ⟨rfl, hb9⟩
    have BB9 := BB8.trans (hb9.mono BB8.size)
    have sz9 := hb9.size
    have H9W := H8W.below hb9
    clear H8W
    have H9G := H8G.below hb9
    clear H8G
    have c9_a0_0 := cell_later hb9 c8_a0_0
    clear c8_a0_0
    have c9_a0_1 := cell_later hb9 c8_a0_1
    clear c8_a0_1
    have c9_a0_2 := cell_later hb9 c8_a0_2
    clear c8_a0_2
    have c9_a0_3 := cell_later hb9 c8_a0_3
    clear c8_a0_3
    have c9_W_0 := cell_later hb9 c8_W_0
    clear c8_W_0
    have c9_W_1 := cell_later hb9 c8_W_1
    clear c8_W_1
    have c9_W_2 := cell_later hb9 c8_W_2
    clear c8_W_2
    have c9_W_3 := cell_later hb9 c8_W_3
    clear c8_W_3
    have c9_G_0 := cell_later hb9 c8_G_0
    clear c8_G_0
    have c9_G_1 := cell_later hb9 c8_G_1
    clear c8_G_1
    have c9_G_2 := cell_later hb9 c8_G_2
    clear c8_G_2
    have c9_G_3 := cell_later hb9 c8_G_3
    clear c8_G_3
    go_wp2_with fail
    refine (markDisk_k G (1) _ _ _ H9G hkG (by omega) (by omega)).mono ?_
    rintro e w10 ⟨rfl, HE10G, hb10⟩
    have BB10 := BB9.trans (hb10.below (B := w.heap.size) (by omega) BB9.size)
    have sz10 := hb10.size
    have H10W := H9W.win hb10 (by omega)
    clear H9W
    have c10_a0_0 := cell_win hb10 c9_a0_0 (by omega)
    clear c9_a0_0
    have c10_a0_1 := cell_win hb10 c9_a0_1 (by omega)
    clear c9_a0_1
    have c10_a0_2 := cell_win hb10 c9_a0_2 (by omega)
    clear c9_a0_2
    have c10_a0_3 := cell_win hb10 c9_a0_3 (by omega)
    clear c9_a0_3
    have c10_W_0 := cell_win hb10 c9_W_0 (by omega)
    clear c9_W_0
    have c10_W_1 := cell_win hb10 c9_W_1 (by omega)
    clear c9_W_1
    have c10_W_2 := cell_win hb10 c9_W_2 (by omega)
    clear c9_W_2
    have c10_W_3 := cell_win hb10 c9_W_3 (by omega)
    clear c9_W_3
    have c10_G_0 := cell_win hb10 c9_G_0 (by omega)
    clear c9_G_0
    have c10_G_1 := cell_win hb10 c9_G_1 (by omega)
    clear c9_G_1
    have c10_G_2 := cell_win hb10 c9_G_2 (by omega)
    clear c9_G_2
    have c10_G_3 := cell_win hb10 c9_G_3 (by omega)
    clear c9_G_3
    go_wp2_with fail
    refine (heldDisk_k G 1 _ HE10G (by omega) (by omega)).mono ?_
    rintro e w11 ⟨rfl, hb11⟩
    have BB11 := BB10.trans (hb11.mono BB10.size)
    have sz11 := hb11.size
    have H11W := H10W.below hb11
    clear H10W
    have H11G := HE10G.below hb11
    clear HE10G
    have c11_a0_0 := cell_later hb11 c10_a0_0
    clear c10_a0_0
    have c11_a0_1 := cell_later hb11 c10_a0_1
    clear c10_a0_1
    have c11_a0_2 := cell_later hb11 c10_a0_2
    clear c10_a0_2
    have c11_a0_3 := cell_later hb11 c10_a0_3
    clear c10_a0_3
    have c11_W_0 := cell_later hb11 c10_W_0
    clear c10_W_0
    have c11_W_1 := cell_later hb11 c10_W_1
    clear c10_W_1
    have c11_W_2 := cell_later hb11 c10_W_2
    clear c10_W_2
    have c11_W_3 := cell_later hb11 c10_W_3
    clear c10_W_3
    have c11_G_0 := cell_later hb11 c10_G_0
    clear c10_G_0
    have c11_G_1 := cell_later hb11 c10_G_1
    clear c10_G_1
    have c11_G_2 := cell_later hb11 c10_G_2
    clear c10_G_2
    have c11_G_3 := cell_later hb11 c10_G_3
    clear c10_G_3
    go_wp2_with fail
    refine (toDisk_k y0 _ (rdDisk_below (goodDisk_rd g0) BB11 (Nat.le_refl _)) hn0).mono ?_
    rintro e w12 ⟨v0, rfl, hdv0, H12v0, hkv0, hb12⟩
    have BB12 := BB11.trans (hb12.mono BB11.size)
    have sz12 := hb12.size
    have H12W := H11W.below hb12
    clear H11W
    have H12G := H11G.below hb12
    clear H11G
    have c12_a0_0 := cell_later hb12 c11_a0_0
    clear c11_a0_0
    have c12_a0_1 := cell_later hb12 c11_a0_1
    clear c11_a0_1
    have c12_a0_2 := cell_later hb12 c11_a0_2
    clear c11_a0_2
    have c12_a0_3 := cell_later hb12 c11_a0_3
    clear c11_a0_3
    have c12_W_0 := cell_later hb12 c11_W_0
    clear c11_W_0
    have c12_W_1 := cell_later hb12 c11_W_1
    clear c11_W_1
    have c12_W_2 := cell_later hb12 c11_W_2
    clear c11_W_2
    have c12_W_3 := cell_later hb12 c11_W_3
    clear c11_W_3
    have c12_G_0 := cell_later hb12 c11_G_0
    clear c11_G_0
    have c12_G_1 := cell_later hb12 c11_G_1
    clear c11_G_1
    have c12_G_2 := cell_later hb12 c11_G_2
    clear c11_G_2
    have c12_G_3 := cell_later hb12 c11_G_3
    clear c11_G_3
    have HDv0 := Lib.hid hdv0
    clear hdv0
    have okv0 := okDisk_dat okY0 HDv0.out
    go_wp2_with fail
    refine (diskSet_impl_k v0 (datDisk y0) HDv0.out x1 x2 _ (H12v0.good okv0) (by rw [hkv0]; exact hn0) g1 g2).mono ?_
    rintro e w13 ⟨K, rfl, hdK, H13K, hkK, hb13⟩
    have BB13 := BB12.trans (hb13.mono BB12.size)
    have sz13 := hb13.size
    have H13W := H12W.below hb13
    clear H12W
    have H13G := H12G.below hb13
    clear H12G
    have H13v0 := H12v0.below hb13
    clear H12v0
    have c13_a0_0 := cell_later hb13 c12_a0_0
    clear c12_a0_0
    have c13_a0_1 := cell_later hb13 c12_a0_1
    clear c12_a0_1
    have c13_a0_2 := cell_later hb13 c12_a0_2
    clear c12_a0_2
    have c13_a0_3 := cell_later hb13 c12_a0_3
    clear c12_a0_3
    have c13_W_0 := cell_later hb13 c12_W_0
    clear c12_W_0
    have c13_W_1 := cell_later hb13 c12_W_1
    clear c12_W_1
    have c13_W_2 := cell_later hb13 c12_W_2
    clear c12_W_2
    have c13_W_3 := cell_later hb13 c12_W_3
    clear c12_W_3
    have c13_G_0 := cell_later hb13 c12_G_0
    clear c12_G_0
    have c13_G_1 := cell_later hb13 c12_G_1
    clear c12_G_1
    have c13_G_2 := cell_later hb13 c12_G_2
    clear c12_G_2
    have c13_G_3 := cell_later hb13 c12_G_3
    clear c12_G_3
    have HDK := Lib.hid hdK
    clear hdK
    have hl14_a0_0 := World.block_lt_of_cell? _ _ c13_a0_0
    simp only at hl14_a0_0
    have hl14_W_0 := World.block_lt_of_cell? _ _ c13_W_0
    simp only at hl14_W_0
    have hl14_G_0 := World.block_lt_of_cell? _ _ c13_G_0
    simp only at hl14_G_0
    have ha14 := ((Below.refl w13.heap.size w13).alloc (Nat.le_refl _) (.cells #[.int .i64 K.room, .int .i64 K.fuse, .slice K.filesA K.filesN K.filesC, .slice K.waitA K.waitN K.waitC] 34))
    have BP14 := BB13.trans (ha14.mono BB13.size)
    go_wp2_with fail
    refine (eqDisk_k K W _ _ HDK.out HDW.out _ (H13K.below ha14).rd (H13W.below ha14).rd).mono ?_
    rintro e w14 ⟨rfl, hb14⟩
    have hx14 : Below w13.heap.size w13 w14 := ha14.trans (hb14.mono ha14.size)
    have szz14 : w13.heap.size + 1 ≤ w14.heap.size := by have := hb14.size; simp at this; omega
    obtain ⟨hc14, hf14⟩ := bcell hb14
    have c14_K_0 : w14.cell? ⟨w13.heap.size, 0, none⟩ = some (.int .i64 K.room) := by rw [hc14 _ _ (by simp)]; simp [go_sem]
    have c14_K_1 : w14.cell? ⟨w13.heap.size, 1, none⟩ = some (.int .i64 K.fuse) := by rw [hc14 _ _ (by simp)]; simp [go_sem]
    have c14_K_2 : w14.cell? ⟨w13.heap.size, 2, none⟩ = some (.slice K.filesA K.filesN K.filesC) := by rw [hc14 _ _ (by simp)]; simp [go_sem]
    have c14_K_3 : w14.cell? ⟨w13.heap.size, 3, none⟩ = some (.slice K.waitA K.waitN K.waitC) := by rw [hc14 _ _ (by simp)]; simp [go_sem]
    clear hc14 hf14
    have BB14 := BB13.trans (hx14.mono BB13.size)
    have sz14 := hx14.size
    have H14W := H13W.below hx14
    clear H13W
    have H14G := H13G.below hx14
    clear H13G
    have H14K := H13K.below hx14
    clear H13K
    have c14_a0_0 := cell_later hx14 c13_a0_0
    clear c13_a0_0
    have c14_a0_1 := cell_later hx14 c13_a0_1
    clear c13_a0_1
    have c14_a0_2 := cell_later hx14 c13_a0_2
    clear c13_a0_2
    have c14_a0_3 := cell_later hx14 c13_a0_3
    clear c13_a0_3
    have c14_W_0 := cell_later hx14 c13_W_0
    clear c13_W_0
    have c14_W_1 := cell_later hx14 c13_W_1
    clear c13_W_1
    have c14_W_2 := cell_later hx14 c13_W_2
    clear c13_W_2
    have c14_W_3 := cell_later hx14 c13_W_3
    clear c13_W_3
    have c14_G_0 := cell_later hx14 c13_G_0
    clear c13_G_0
    have c14_G_1 := cell_later hx14 c13_G_1
    clear c13_G_1
    have c14_G_2 := cell_later hx14 c13_G_2
    clear c13_G_2
    have c14_G_3 := cell_later hx14 c13_G_3
    clear c13_G_3
    go_wp2_with fail
    refine (heldDisk_k G 1 _ H14G (by omega) (by omega)).mono ?_
    rintro e w15 ⟨rfl, hb15⟩
    have BB15 := BB14.trans (hb15.mono BB14.size)
    have sz15 := hb15.size
    have H15W := H14W.below hb15
    clear H14W
    have H15G := H14G.below hb15
    clear H14G
    have c15_a0_0 := cell_later hb15 c14_a0_0
    clear c14_a0_0
    have c15_a0_1 := cell_later hb15 c14_a0_1
    clear c14_a0_1
    have c15_a0_2 := cell_later hb15 c14_a0_2
    clear c14_a0_2
    have c15_a0_3 := cell_later hb15 c14_a0_3
    clear c14_a0_3
    have c15_W_0 := cell_later hb15 c14_W_0
    clear c14_W_0
    have c15_W_1 := cell_later hb15 c14_W_1
    clear c14_W_1
    have c15_W_2 := cell_later hb15 c14_W_2
    clear c14_W_2
    have c15_W_3 := cell_later hb15 c14_W_3
    clear c14_W_3
    have c15_G_0 := cell_later hb15 c14_G_0
    clear c14_G_0
    have c15_G_1 := cell_later hb15 c14_G_1
    clear c14_G_1
    have c15_G_2 := cell_later hb15 c14_G_2
    clear c14_G_2
    have c15_G_3 := cell_later hb15 c14_G_3
    clear c14_G_3
    go_wp2
    go_ret
    exact ⟨rfl, BB15⟩
  · have BB0 := Below.refl w.heap.size w
    have okY0 := goodDisk_ok g0
    go_enter Try.func7, Try.ntmps7
    have HL0 := Lib.hid (leftB_no (left := 1048576) (n := bulkDisk y0) (by omega))
    have ha1 := ((Below.refl w.heap.size w).alloc (Nat.le_refl _) (.cells #[.int .i64 y0.room, .int .i64 y0.fuse, .slice y0.filesA y0.filesN y0.filesC, .slice y0.waitA y0.waitN y0.waitC] 43))
    have BP1 := BB0.trans (ha1.mono BB0.size)
    go_wp2_with fail
    refine (szDisk_k y0 _ _ (rdDisk_below (goodDisk_rd g0) BP1 (Nat.le_refl _)) (goodDisk_str g0) (by omega) (by omega)).mono ?_
    rintro e w1 ⟨rfl, hb1⟩
    rw [HL0.out]
    have hx1 : Below w.heap.size w w1 := ha1.trans (hb1.mono ha1.size)
    have szz1 : w.heap.size + 1 ≤ w1.heap.size := by have := hb1.size; simp at this; omega
    obtain ⟨hc1, hf1⟩ := bcell hb1
    have c1_a0_0 : w1.cell? ⟨w.heap.size, 0, none⟩ = some (.int .i64 y0.room) := by rw [hc1 _ _ (by simp)]; simp [go_sem]
    have c1_a0_1 : w1.cell? ⟨w.heap.size, 1, none⟩ = some (.int .i64 y0.fuse) := by rw [hc1 _ _ (by simp)]; simp [go_sem]
    have c1_a0_2 : w1.cell? ⟨w.heap.size, 2, none⟩ = some (.slice y0.filesA y0.filesN y0.filesC) := by rw [hc1 _ _ (by simp)]; simp [go_sem]
    have c1_a0_3 : w1.cell? ⟨w.heap.size, 3, none⟩ = some (.slice y0.waitA y0.waitN y0.waitC) := by rw [hc1 _ _ (by simp)]; simp [go_sem]
    clear hc1 hf1
    have BB1 := BB0.trans (hx1.mono BB0.size)
    have sz1 := hx1.size
    go_wp2
    go_ret
    exact ⟨rfl, BB1⟩
end Go.Proofs.Ytoodlmhnemamhaa

/- The law FnExactDiskSet returns true for every input, and leaves its arguments as they were: no condition. The row's step; the walk stands in the text imported. -/
namespace Go.Proofs.Ytoodlmhnemamhaa.fnExactDiskSet
open Go.ChangeShapes Go.WideShapes Go.ChangeAt Go.RowKit Go.Deep
open Go.ChangeMaps (open_string shut_string)
set_option linter.unusedVariables false
set_option maxRecDepth 100000 in
theorem lifted (os : Os) (started : os.Started) (H : Type) (enc : TypeId × Value → H) :
    ReturnsInHanded {} Try.checked os 7 .any (Rows.fnExactDiskSetSpec.pre6 enc Try.prog Try.f7 Rows.fnExactDiskSetRow.domain false) (Rows.fnExactDiskSetSpec.post enc Try.prog Try.f7 false true false false) := by
  refine returnsInHanded_of_change (C := Try.checked) own started (by kernel_rfl) Try.func7
    (ChangeSpec.witness6 (enc := enc) (C := Try.checked) false ⟨#[], #[.agg #[.int .i64 0, .int .i64 0, .slice none 0 0, .slice none 0 0], .int .i64 0, .int .i64 0], []⟩ 8 (by kernel_rfl) (by kernel_rfl) (by kernel_rfl) (by kernel_rfl)) ?_
  intro W base args ds gs before hval0 hW hcnd _
  have hval : ∀ (j : Nat) t v, Try.f7.params[j]? = some t → args[j]? = some v → Value.okWide Try.prog W .any base t v := hval0
  have hW' := hW
  obtain ⟨p, q, hA0, hV, rfl, hfz, hnd⟩ := hW
  have hA : DataW.TrodAll enc Try.prog W 0 (fun _ => true) true Try.f7.params.toList args.toList ds p := hA0
  rw [Try.params7] at hA hval
  obtain ⟨v0, vs0, d0, ds0, p0, q0, hargs, rfl, rfl, h0, r0⟩ := trodAll_cons hA
  obtain ⟨v1, vs1, d1, ds1, p1, q1, rfl, rfl, rfl, h1, r1⟩ := trodAll_cons r0
  obtain ⟨v2, vs2, d2, ds2, p2, q2, rfl, rfl, rfl, h2, r2⟩ := trodAll_cons r1
  obtain ⟨rfl, rfl, rfl⟩ := trodAll_nil r2
  obtain rfl : args = #[v0, v1, v2] := by cases args; simp_all
  obtain ⟨rfl, rfl⟩ := trodVars_none hV
  have k0 := h0
  have lt0 : ∀ x ∈ p0, x.block < W.heap.size := by obtain ⟨m, hm⟩ := k0; exact DataW.trod_lt m _ _ _ hm
  obtain ⟨cs0, rfl, hsz0⟩ := okWide_struct Try.underlying43 (hval 0 43 v0 rfl rfl)
  obtain ⟨fu0, hf0⟩ := h0
  obtain ⟨y0, hc0, gd0⟩ := opDisk _ _ _ hf0
  obtain rfl : cs0 = #[.int .i64 y0.room, .int .i64 y0.fuse, .slice y0.filesA y0.filesN y0.filesC, .slice y0.waitA y0.waitN y0.waitC] := by apply Array.toList_inj.1; simpa [Value.cells, encDisk] using hc0
  have k1 := h1
  have lt1 : ∀ x ∈ p1, x.block < W.heap.size := by obtain ⟨m, hm⟩ := k1; exact DataW.trod_lt m _ _ _ hm
  obtain ⟨x1, e1, _, _, wx1⟩ := open_int Try.underlying3 (hval 1 3 v1 rfl rfl) h1
  subst e1
  have k2 := h2
  have lt2 : ∀ x ∈ p2, x.block < W.heap.size := by obtain ⟨m, hm⟩ := k2; exact DataW.trod_lt m _ _ _ hm
  obtain ⟨x2, e2, _, _, wx2⟩ := open_int Try.underlying3 (hval 2 3 v2 rfl rfl) h2
  subst e2
  clear hA0 hval0
  refine (walk_FnExactDiskSet y0 x1 x2 W gd0 (in64_of wx1) (in64_of wx2)).mono fun e W' ⟨he, bel⟩ => ?_
  subst he
  exact ⟨_, rfl, _, _, _, [], _, [], hW', trodAll_mk1 (shut_bool Try.underlying4 _), (trodAll_cons_mk (Below.trod laidOut (by kernel_rfl) (of_decide_eq_true (by kernel_rfl)) k0 bel lt0) (trodAll_cons_mk (Below.trod laidOut (by kernel_rfl) (of_decide_eq_true (by kernel_rfl)) k1 bel lt1) (trodAll_cons_mk (Below.trod laidOut (by kernel_rfl) (of_decide_eq_true (by kernel_rfl)) k2 bel lt2) trodAll_mk0))), rfl, bel.frame _, fun h => by cases h⟩

theorem over : Rows.fnExactDiskSetRow.holds Try.pinned (OpenSpec.ofChange Rows.fnExactDiskSetSpec) :=
  OpenClaim.holds_of_wide 7 Try.f7 rfl rfl rfl rfl rfl rfl rfl ⟨rfl, rfl, rfl, rfl, rfl⟩ rfl rfl rfl rfl rfl (by kernel_rfl) Try.func7 (by kernel_rfl)
    (of_decide_eq_true (by kernel_rfl)) (by unfold Func.isWrapper; first | (rw [if_pos (by decide +kernel)]; kernel_rfl) | (rw [if_neg (by decide +kernel)]; exact ⟨rfl, rfl⟩))
    (fun os started H enc _ => lifted os started H enc)

theorem proved : Rows.FnExactDiskSetSaid := over
#print axioms proved
end Go.Proofs.Ytoodlmhnemamhaa.fnExactDiskSet

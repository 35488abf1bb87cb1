/- Seen and DiskRead of the reference. -/
import Derived.Test.YtoodlmhnemamhaaCopyF
import Derived.Test.YtoodlmhnemamhaaDiskOkS
namespace Go.Proofs.Ytoodlmhnemamhaa
open Go.RowKit
theorem op_some {w : World} {room : Int} {l : List FD} {xs : List FsOpR} {k : Nat} {L : List FD} (hk : k < xs.length) (hr : Rd (encI .u8) 1 w (atFsOp xs k).dataA (atFsOp xs k).dataN (atFsOp xs k).dataC (atFsOp xs k).data) (h : runF room l ((xs.map datFsOp).drop k) = some L) :
    fitsB l (datFsOp (atFsOp xs k)) = true ∧ (sizeF (makeF l (datFsOp (atFsOp xs k))) : Int) ≤ room ∧ runF room (makeF l (datFsOp (atFsOp xs k))) ((xs.map datFsOp).drop (k + 1)) = some L := by
  rw [op_step (room := room) (l := l) hk hr] at h
  split at h
  · rename_i h1
    simp only [Bool.and_eq_true, decide_eq_true_eq] at h1
    exact ⟨h1.2.1, h1.2.2, h⟩
  · cases h
set_option maxRecDepth 100000 in
set_option maxHeartbeats 6400000 in
theorem l02Seen_any (y : DiskR) (L : List FD) (w : World) (g : rdDisk w y) (hn : bulkDisk y ≤ 1048576) (n12 : y.filesN ≤ 12) (n60 : y.waitN ≤ 60) (hr0 : y.room ≤ 200000) (hrun : runF y.room (y.files.map datFile) (y.wait.map datFsOp) = some L) :
    Calls Try.prog 71 #[.agg #[.int .i64 y.room, .int .i64 y.fuse, .slice y.filesA y.filesN y.filesC, .slice y.waitA y.waitN y.waitC], .int .i64 (y.waitN : Nat)] w fun e w' => RetFl L w e w' := by
  obtain ⟨room, fuse, fA, fN, fC, fs, oA, oN, oC, os⟩ := y
  obtain ⟨⟨gf, gfi⟩, go, goi⟩ := g
  unfold bulkDisk at hn
  simp only [fR, oR] at gf gfi go goi hn n12 n60 hr0 hrun ⊢
  have HSB : Hid (sizeF (fs.map datFile) ≤ 1048576) := Lib.hid (by have := size_bulk (w := w) (y := ⟨fA, fN, fC, fs⟩) ⟨gf, gfi⟩; unfold datFileS at this; simp only at this; omega)
  have HOL : Hid (os.length = oN) := Lib.hid go.len
  have HFL : Hid (fs.length = fN) := Lib.hid gf.len
  have HDN : Hid (∀ k, k < os.length → (atFsOp os k).dataN ≤ 1048576) := Lib.hid (fun k hk => by
    have h1 := preFsOp_top os k hk
    have h2 : bulkFsOpS ⟨oA, oN, oC, os⟩ = oN + preFsOp os os.length := rfl
    have h3 : (atFsOp os k).dataN ≤ bulkFsOp (atFsOp os k) := by unfold bulkFsOp; omega
    omega)
  have HRU := Lib.hid hrun
  have om := go.max
  have ol := go.le
  unfold maxLen at om
  have hb0 := (Below.refl w.heap.size w).alloc (Nat.le_refl _) (.cells #[.int .i64 room, .int .i64 fuse, .slice fA fN fC, .slice oA oN oC] 34)
  have HGO : Hid (∀ x ∈ os, rdFsOp w x) := Lib.hid goi
  have HF0 := Lib.hid (show rdFileS _ ⟨fA, fN, fC, fs⟩ from rdFileS_below (w := w) ⟨gf, gfi⟩ hb0 (Nat.le_refl _))
  have C3 : (w.alloc (.cells #[.int .i64 room, .int .i64 fuse, .slice fA fN fC, .slice oA oN oC] 34)).cell? ⟨w.heap.size, 3, none⟩ = some (.slice oA oN oC) := by simp [go_sem]
  have hot : (oN : Int) ≤ (oC : Int) := by omega
  have hon : ¬ (oN : Int) < 0 := by omega
  clear gfi goi hn hrun
  go_enter Try.func71, Try.ntmps71
  go_wp2_with fail
  generalize w.alloc (.cells #[.int .i64 room, .int .i64 fuse, .slice fA fN fC, .slice oA oN oC] 34) = W0 at *
  refine (l02Files_any ⟨fA, fN, fC, fs⟩ _ HF0.out (by show fN ≤ 10000000; omega) (by have := HSB.out; unfold datFileS; simp only; omega)).mono ?_
  rintro e w1 ⟨q0, rfl, hd0, ho0, hb1⟩
  have D3 := cell_later hb1 C3
  have BB1 := hb0.trans (hb1.mono hb0.size)
  have HQ0 := Lib.hid ho0.rd
  have HD0 : Hid (datFileS q0 = fs.map datFile) := Lib.hid hd0
  have hq0n : q0.n ≤ 12 := by
    have h5 : (datFileS q0).length = q0.n := by unfold datFileS; rw [List.length_map]; exact HQ0.out.1.len
    rw [HD0.out, List.length_map, HFL.out] at h5
    omega
  have HF0' : Hid (FrB w.heap.size q0) := Lib.hid (fun g hg => Nat.le_trans hb0.size (World.ownsRow.lt ho0.nest.row.own g hg).1)
  clear hd0 ho0 C3 HF0
  go_wp2_with fail
  go_loopw [5, 16] (fun l i wr => ∃ (t : Nat) (q : Row FileR), t ≤ oN ∧ l = .slice q.a q.n q.c ∧ i = .int .i64 t ∧ rdFileS wr q ∧ Hid (runF room (datFileS q) ((os.map datFsOp).drop t) = some L) ∧ q.n ≤ 12 + t ∧ sizeF (datFileS q) ≤ 1048576 ∧ Hid (FrB w.heap.size q) ∧ Below w.heap.size w wr) (fun _ i _ => oN - (intOf i).toNat)
  case atStart => exact ⟨0, q0, Nat.zero_le _, rfl, rfl, HQ0.out, Lib.hid (by rw [List.drop_zero, HD0.out]; exact HRU.out), hq0n, by rw [HD0.out]; exact HSB.out, HF0', BB1⟩
  case round =>
    obtain ⟨t, q, ht, rfl, rfl, hq, HR, hqn, hqs, HFR, hb⟩ := hrel
    by_cases hlt : t < oN
    · obtain ⟨b, off, rfl, hbl, hc⟩ := go.rowFsOp (by omega)
      obtain ⟨k0, k1, k2, k3⟩ := hc t hlt
      have cb : ∀ o, wr.cell? ⟨b, o, none⟩ = w.cell? ⟨b, o, none⟩ := fun o => hb.cell (p := ⟨b, o, none⟩) hbl
      rw [← cb] at k0 k1 k2 k3
      have htx : t < os.length := by rw [HOL.out]; exact hlt
      have hti : (t : Int) < (oN : Int) := by omega
      have HXR : Hid (rdFsOp wr (atFsOp os t)) := Lib.hid (by rw [atFsOp_eq os t htx]; exact rdFsOp_below (HGO.out _ (List.getElem_mem htx)) hb (Nat.le_refl _))
      have hdn := HDN.out t htx
      have HST := Lib.hid (op_some htx HXR.out HR.out)
      clear hc cb htx
      generalize atFsOp os t = x at *
      obtain ⟨ok, onm, odst, xA, xN, xC, xL⟩ := x
      try simp only at k0 k1 k2 k3 HST hdn
      have hal := (Below.refl wr.heap.size wr).alloc (Nat.le_refl _) (.cells #[.int .i64 ok, .string onm, .string odst, .slice xA xN xC] 27)
      have HXF := Lib.hid (rdFsOp_below HXR.out hal (Nat.le_refl _))
      have HQF := Lib.hid (rdFileS_below hq hal (Nat.le_refl _))
      have hbF := hb.trans (hal.mono hb.size)
      have hlm2 : (makeF (datFileS q) (datFsOp ⟨ok, onm, odst, xA, xN, xC, xL⟩)).length ≤ 12 + (t + 1) := by
        have hlm := len_make (datFileS q) (datFsOp ⟨ok, onm, odst, xA, xN, xC, xL⟩)
        have h5 : (datFileS q).length = q.n := by unfold datFileS; rw [List.length_map]; exact HQF.out.1.len
        omega
      clear hq HR
      go_wp2_with fail
      refine (l02Make_any q ⟨ok, onm, odst, xA, xN, xC, xL⟩ _ HQF.out HXF.out (by omega) (by omega) (by show xN ≤ 10000000; omega) HST.out.1).mono ?_
      rintro e w5 ⟨q2, rfl, hd2, hr2, hb5, hfr5⟩
      have hb5F := hbF.trans (hb5.mono hbF.size)
      have hq2n : q2.n ≤ 12 + (t + 1) := by
        have h5 : (datFileS q2).length = q2.n := by unfold datFileS; rw [List.length_map]; exact hr2.1.len
        rw [hd2] at h5
        omega
      have hs6 : sizeF (datFileS q2) ≤ 1048576 := by have := HST.out.2.1; rw [hd2]; omega
      have HX : Hid (runF room (datFileS q2) ((os.map datFsOp).drop (t + 1)) = some L) := Lib.hid (by rw [hd2]; exact HST.out.2.2)
      have HF2 : Hid (FrB w.heap.size q2) := Lib.hid (fun g hg => Nat.le_trans hbF.size (hfr5 g hg))
      clear hd2 HST hlm2 hfr5
      go_wp2
      go_roundw
      case rel => exact ⟨t + 1, q2, by omega, rfl, by go_num, hr2, HX, hq2n, hs6, HF2, hb5F⟩
      case measure => simp [intOf]; omega
    · obtain rfl : t = oN := by omega
      have HE : Hid (datFileS q = L) := Lib.hid (by
        have h := HR.out
        rw [List.drop_of_length_le (by rw [List.length_map, HOL.out]; exact Nat.le_refl _)] at h
        exact Option.some.inj h)
      go_wp2
      go_ret
      exact ⟨q, rfl, HE.out, hq, hb, HFR.out⟩
end Go.Proofs.Ytoodlmhnemamhaa

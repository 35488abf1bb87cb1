/- DiskOk of the program. -/
import Derived.Test.YtoodlmhnemamhaaSeen
namespace Go.Proofs.Ytoodlmhnemamhaa
open Go.RowKit
set_option maxRecDepth 100000 in
set_option maxHeartbeats 12800000 in
theorem diskOk_impl_y (y : DiskR) (w : World) (g : rdDisk w y) (hst : strDisk y) (gi : In64 y.room ∧ In64 y.fuse) (hn : bulkDisk y ≤ 1048576) :
    Calls Try.prog 23 #[.agg #[.int .i64 y.room, .int .i64 y.fuse, .slice y.filesA y.filesN y.filesC, .slice y.waitA y.waitN y.waitC]] w fun e w' => e = .returned (.bool (diskB y.room y.fuse (y.files.map datFile) (y.wait.map datFsOp))) ∧ Below w.heap.size w w' := by
  have HY := Lib.hid (show rdDisk w y ∧ strDisk y ∧ bulkDisk y ≤ 1048576 from ⟨g, hst, hn⟩)
  obtain ⟨room, fuse, fA, fN, fC, fs, oA, oN, oC, os⟩ := y
  obtain ⟨⟨gf, gfi⟩, go, goi⟩ := g
  obtain ⟨hst1, hst2⟩ := hst
  unfold bulkDisk at hn
  obtain ⟨gi1, gi2⟩ := gi
  unfold In64 at gi1 gi2
  simp only [fR, oR] at gf gfi go goi hst1 hst2 hn gi1 gi2 ⊢
  have HSB : Hid (sizeF (fs.map datFile) ≤ 1048576) := Lib.hid (by have := size_bulk (w := w) (y := ⟨fA, fN, fC, fs⟩) ⟨gf, gfi⟩; unfold datFileS at this; simp only at this; omega)
  have HFL : Hid (fs.length = fN) := Lib.hid gf.len
  have HOL : Hid (os.length = oN) := Lib.hid go.len
  have HDN : Hid (∀ k, k < os.length → (atFsOp os k).dataN ≤ 1048576) := Lib.hid (fun k hk => by
    have h1 := preFsOp_top os k hk
    have h2 : bulkFsOpS ⟨oA, oN, oC, os⟩ = oN + preFsOp os os.length := rfl
    have h3 : (atFsOp os k).dataN ≤ bulkFsOp (atFsOp os k) := by unfold bulkFsOp; omega
    omega)
  have HG := Lib.hid gfi
  have HGO := Lib.hid goi
  have HS1 := Lib.hid hst1
  have HS2 := Lib.hid hst2
  have fm := gf.max
  have fl := gf.le
  have om := go.max
  have ol := go.le
  unfold maxLen at fm om
  have hb0 := (Below.refl w.heap.size w).alloc (Nat.le_refl _) (.cells #[.int .i64 room, .int .i64 fuse, .slice fA fN fC, .slice oA oN oC] 34)
  clear gfi goi hst1 hst2 hn
  have HHD := Lib.hid (fun h => diskB_head (room := room) (fuse := fuse) (F := fs.map datFile) (O := os.map datFsOp) h)
  by_cases hh : 0 ≤ room ∧ room ≤ 200000 ∧ -1 ≤ fuse ∧ fuse ≤ 2000 ∧ fN ≤ 12 ∧ oN ≤ 60
  case neg =>
    have HX := Lib.hid (HHD.out (by rw [List.length_map, List.length_map, HFL.out, HOL.out]; exact hh))
    have hcases : room < 0 ∨ (0 ≤ room ∧ 200000 < room) ∨ (0 ≤ room ∧ room ≤ 200000 ∧ fuse < -1) ∨ (0 ≤ room ∧ room ≤ 200000 ∧ -1 ≤ fuse ∧ 2000 < fuse) ∨ (0 ≤ room ∧ room ≤ 200000 ∧ -1 ≤ fuse ∧ fuse ≤ 2000 ∧ (12 : Int) < (fN : Int)) ∨ (0 ≤ room ∧ room ≤ 200000 ∧ -1 ≤ fuse ∧ fuse ≤ 2000 ∧ (fN : Int) ≤ 12 ∧ (60 : Int) < (oN : Int)) := by omega
    clear hh HHD
    rcases hcases with h | ⟨h, h2⟩ | ⟨h, h2, h3⟩ | ⟨h, h2, h3, h4⟩ | ⟨h, h2, h3, h4, h5⟩ | ⟨h, h2, h3, h4, h5, h6⟩
    all_goals
      go_enter Try.func23, Try.ntmps23
      go_wp2
      go_ret
      exact ⟨by rw [HX.out] <;> rfl, hb0⟩
  clear HHD
  obtain ⟨r0, r1, u0, u1, n12, n60⟩ := hh
  have HHH := Lib.hid (show 0 ≤ room ∧ room ≤ 200000 ∧ -1 ≤ fuse ∧ fuse ≤ 2000 ∧ (fs.map datFile).length ≤ 12 ∧ (os.map datFsOp).length ≤ 60 from by rw [List.length_map, List.length_map, HFL.out, HOL.out]; exact ⟨r0, r1, u0, u1, n12, n60⟩)
  have C0 : (w.alloc (.cells #[.int .i64 room, .int .i64 fuse, .slice fA fN fC, .slice oA oN oC] 34)).cell? ⟨w.heap.size, 0, none⟩ = some (.int .i64 room) := by simp [go_sem]
  have C1 : (w.alloc (.cells #[.int .i64 room, .int .i64 fuse, .slice fA fN fC, .slice oA oN oC] 34)).cell? ⟨w.heap.size, 1, none⟩ = some (.int .i64 fuse) := by simp [go_sem]
  have C2 : (w.alloc (.cells #[.int .i64 room, .int .i64 fuse, .slice fA fN fC, .slice oA oN oC] 34)).cell? ⟨w.heap.size, 2, none⟩ = some (.slice fA fN fC) := by simp [go_sem]
  have C3 : (w.alloc (.cells #[.int .i64 room, .int .i64 fuse, .slice fA fN fC, .slice oA oN oC] 34)).cell? ⟨w.heap.size, 3, none⟩ = some (.slice oA oN oC) := by simp [go_sem]
  have HF0 := Lib.hid (show rdFileS _ ⟨fA, fN, fC, fs⟩ from rdFileS_below (w := w) ⟨gf, HG.out⟩ hb0 (Nat.le_refl _))
  have d0 : decide (room < 0) = false := decide_eq_false (by omega)
  have d1 : decide (200000 < room) = false := decide_eq_false (by omega)
  have d2 : decide (fuse < -1) = false := decide_eq_false (by omega)
  have d3 : decide (2000 < fuse) = false := decide_eq_false (by omega)
  have d4 : decide ((12 : Int) < (fN : Int)) = false := decide_eq_false (by omega)
  have d5 : decide ((60 : Int) < (oN : Int)) = false := decide_eq_false (by omega)
  have nf : ¬ (12 : Int) < (fN : Int) := by omega
  have no : ¬ (60 : Int) < (oN : Int) := by omega
  have q0 : ¬ room < 0 := by omega
  have q1 : ¬ 200000 < room := by omega
  have q2 : ¬ fuse < -1 := by omega
  have q3 : ¬ 2000 < fuse := by omega
  go_enter Try.func23, Try.ntmps23
  go_wp2_with fail
  generalize w.alloc (.cells #[.int .i64 room, .int .i64 fuse, .slice fA fN fC, .slice oA oN oC] 34) = W0 at *
  clear d0 d1 d2 d3 d4 d5 q0 q1 q2 q3 nf no
  go_loopw [40] (fun i wr => ∃ k : Nat, k ≤ fN ∧ i = .int .i64 k ∧ Hid (∀ j, j < k → nameStep (fs.map datFile) j = true) ∧ Below W0.heap.size W0 wr) (fun i _ => fN - (intOf i).toNat)
  case atStart => exact ⟨0, Nat.zero_le _, rfl, Lib.hid (fun j hj => absurd hj (Nat.not_lt_zero j)), Below.refl _ _⟩
  case round =>
    obtain ⟨k, hk, rfl, HE, hb⟩ := hrel
    have BBr := hb0.trans (hb.mono hb0.size)
    have Y2 := cell_later hb C2
    by_cases hlt : k < fN
    · obtain ⟨b, off, rfl, hbl, hc⟩ := gf.rowFile (by omega)
      obtain ⟨k0, k1⟩ := hc k hlt
      obtain ⟨l0, _⟩ := hc (k - 1) (by omega)
      have cb : ∀ o, wr.cell? ⟨b, o, none⟩ = w.cell? ⟨b, o, none⟩ := fun o => BBr.cell (p := ⟨b, o, none⟩) hbl
      rw [← cb] at k0 k1 l0
      have hkx : k < fs.length := by rw [HFL.out]; exact hlt
      have hnm : (atFile fs k).name.size ≤ maxLen := by rw [atFile_eq fs k hkx]; exact HS1.out _ (List.getElem_mem hkx)
      have hi1 : (k : Int) < (fN : Int) := by omega
      have HB := Lib.hid (fun h => diskB_name (room := room) (fuse := fuse) (O := os.map datFsOp) (k := k) (F := fs.map datFile) (by rw [List.length_map]; exact hkx) h)
      have HN1 := Lib.hid (fun h => name_bad hkx h)
      have HN2 := Lib.hid (fun h0 h => name_next hkx h0 h)
      have HN3 : Hid (k = 0 → nameB (atFile fs k).name = true → nameStep (fs.map datFile) k = true) := Lib.hid (fun e h => by subst e; exact name_zero hkx h)
      have HW : Hid (nameStep (fs.map datFile) k = true → ∀ j, j < k + 1 → nameStep (fs.map datFile) j = true) := Lib.hid (fun h j hj => by
        by_cases e : j = k
        · rw [e]; exact h
        · exact HE.out j (by omega))
      have hs1 := toList_ltN (atFile fs (k - 1)).name (atFile fs k).name
      clear hc cb hkx HE
      generalize (atFile fs (k - 1)).name = pn at *
      generalize atFile fs k = x at *
      obtain ⟨nm, xA, xN, xC, xL⟩ := x
      try simp only at k0 k1 l0 hnm HN1 HN2 HN3 hs1
      have hal := (Below.refl wr.heap.size wr).alloc (Nat.le_refl _) (.cells #[.string nm, .slice xA xN xC] 71)
      have E0 : (wr.alloc (.cells #[.string nm, .slice xA xN xC] 71)).cell? ⟨wr.heap.size, 0, none⟩ = some (.string nm) := by simp [go_sem]
      have E2 := cell_later hal Y2
      have BBf := BBr.trans (hal.mono BBr.size)
      have hbF := hb.trans (hal.mono hb.size)
      replace l0 := cell_later hal l0
      go_wp2_with fail
      generalize wr.alloc (.cells #[.string nm, .slice xA xN xC] 71) = WF at *
      cases hnb : nameB nm with
      | false =>
        have HNB := Lib.hid hnb
        have HX := Lib.hid (HB.out (HN1.out hnb))
        clear HB HN1 HN2 HN3 HW hnb
        have HC : Hid (∀ W : World, Calls Try.prog 39 #[.string nm] W fun e w' => e = .returned (.bool false) ∧ ∃ m, w' = W.drewN m) := Lib.hid (fun W => by have h := nameOk_impl_q nm W hnm; rw [HNB.out] at h; exact h)
        go_quiet (first | (go_at_call 39; exact Calls.quiet_of (HC.out _)))
        generalize hwd : WF.drewN _ = wd
        have hbw : Below WF.heap.size WF wd := by rw [← hwd]; exact ⟨rfl, rfl, rfl, Nat.le_refl _, fun _ _ => rfl⟩
        clear hwd
        have BBw := BBf.trans (hbw.mono BBf.size)
        go_wp2
        go_ret
        exact ⟨by rw [HX.out] <;> rfl, BBw⟩
      | true =>
        have HNB := Lib.hid hnb
        by_cases hk0 : k = 0
        · subst hk0
          have HX := Lib.hid (HW.out (HN3.out rfl hnb))
          clear HB HN1 HN2 HN3 HW hnb
          have HC : Hid (∀ W : World, Calls Try.prog 39 #[.string nm] W fun e w' => e = .returned (.bool true) ∧ ∃ m, w' = W.drewN m) := Lib.hid (fun W => by have h := nameOk_impl_q nm W hnm; rw [HNB.out] at h; exact h)
          go_quiet (first | (go_at_call 39; exact Calls.quiet_of (HC.out _)))
          generalize hwd : WF.drewN _ = wd
          have hbw : Below WF.heap.size WF wd := by rw [← hwd]; exact ⟨rfl, rfl, rfl, Nat.le_refl _, fun _ _ => rfl⟩
          clear hwd
          have hbw2 := hbF.trans (hbw.mono hbF.size)
          go_wp2
          go_roundw
          case rel => exact ⟨0 + 1, by omega, by go_num, HX, hbw2⟩
          case measure => simp [intOf]; omega
        · have hk0' : 0 < k := by omega
          have hd0 : (0 : Int) < (k : Int) := by omega
          have hd1 : IntKind.i64.wrap ((k : Int) - 1) = (k : Int) - 1 := IntWalk.i64_in _ (by omega)
          have hd2 : 0 ≤ (k : Int) - 1 := by omega
          have hd3 : ((k : Int) - 1).toNat = k - 1 := by omega
          have hd4 : (k : Int) - 1 < (fN : Int) := by omega
          have hd5 : (k : Int) ≤ (fN : Int) := by omega
          have hd6 : (1 : Int) ≤ (k : Int) := by omega
          have hd7 : k ≤ fN := by omega
          cases hq : ltN pn nm with
          | true =>
            rw [hq] at hs1
            have HX := Lib.hid (HW.out (by rw [HN2.out hk0' hnb]; exact hq))
            clear HB HN1 HN2 HN3 HW hnb hq
            go_region_held3 (fun w' => w'.cell? ⟨wr.heap.size, 0, none⟩ = some (.string nm) ∧ w'.cell? ⟨w.heap.size, 2, none⟩ = some (.slice (some ⟨b, off, none⟩) fN fC) ∧ w'.cell? ⟨b, off + (k - 1) * 2, none⟩ = some (.string pn) ∧ Below WF.heap.size WF w')
              (first | exact keepd3 (by assumption) | exact keep3 (by assumption) (Nat.le_refl _) (by assumption) | exact ⟨E0, E2, l0, (Below.refl _ _).drew⟩)
              (first | (go_at_call 39; refine (nameOk_impl nm _ hnm).mono ?_; rintro e w3 ⟨rfl, hb3⟩; rw [HNB.out]))
            have hbw : Below WF.heap.size WF _ := tail3 (by assumption)
            have hbw2 := hbF.trans (hbw.mono hbF.size)
            go_wp2
            go_roundw
            case rel => exact ⟨k + 1, by omega, by go_num, HX, hbw2⟩
            case measure => simp [intOf]; omega
          | false =>
            rw [hq] at hs1
            have HX := Lib.hid (HB.out (by rw [HN2.out hk0' hnb]; exact hq))
            clear HB HN1 HN2 HN3 HW hnb hq
            go_region_held3 (fun w' => w'.cell? ⟨wr.heap.size, 0, none⟩ = some (.string nm) ∧ w'.cell? ⟨w.heap.size, 2, none⟩ = some (.slice (some ⟨b, off, none⟩) fN fC) ∧ w'.cell? ⟨b, off + (k - 1) * 2, none⟩ = some (.string pn) ∧ Below WF.heap.size WF w')
              (first | exact keepd3 (by assumption) | exact keep3 (by assumption) (Nat.le_refl _) (by assumption) | exact ⟨E0, E2, l0, (Below.refl _ _).drew⟩)
              (first | (go_at_call 39; refine (nameOk_impl nm _ hnm).mono ?_; rintro e w3 ⟨rfl, hb3⟩; rw [HNB.out]))
            have hbw : Below WF.heap.size WF _ := tail3 (by assumption)
            have BBw := BBf.trans (hbw.mono BBf.size)
            go_wp2
            go_ret
            exact ⟨by rw [HX.out] <;> rfl, BBw⟩
    · obtain rfl : k = fN := by omega
      have hnm : ∀ j, j < (fs.map datFile).length → nameStep (fs.map datFile) j = true := fun j hj => HE.out j (by rw [List.length_map, HFL.out] at hj; exact hj)
      have HDB : Hid (diskB room fuse (fs.map datFile) (os.map datFsOp) = (seenB room (fs.map datFile) (os.map datFsOp)).isSome) := Lib.hid (by
        unfold diskB
        rw [headB_mk HHH.out, namesB_all hnm]
        rfl)
      have Y0 := cell_later hb C0
      have Y1 := cell_later hb C1
      have Y3 := cell_later hb C3
      go_wp2_with fail
      refine (seenOf_any ⟨room, fuse, fA, k, fC, fs, oA, oN, oC, os⟩ _ (rdDisk_below HY.out.1 BBr (Nat.le_refl _)) HY.out.2.1 HY.out.2.2 n12 n60 r1 hnm).mono ?_
      rintro e w2 ⟨hq, hb2⟩
      have BB2 := BBr.trans (hb2.mono BBr.size)
      rcases hq with ⟨h1, rfl⟩ | ⟨b, n, M, h1, rfl, _⟩
      · have HX : Hid (diskB room fuse (fs.map datFile) (os.map datFsOp) = false) := Lib.hid (by rw [HDB.out, h1]; rfl)
        clear h1 hnm
        go_wp2
        go_ret
        exact ⟨by rw [HX.out] <;> rfl, BB2⟩
      · have HX : Hid (diskB room fuse (fs.map datFile) (os.map datFsOp) = true) := Lib.hid (by rw [HDB.out, h1]; rfl)
        clear h1 hnm
        go_wp2
        go_ret
        exact ⟨by rw [HX.out] <;> rfl, BB2⟩
end Go.Proofs.Ytoodlmhnemamhaa

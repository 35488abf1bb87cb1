/- DiskOk of the reference. -/
import Derived.Test.YtoodlmhnemamhaaDiskQ
import Derived.Test.YtoodlmhnemamhaaDiskOkSN
import Derived.Test.YtoodlmhnemamhaaNameQ
import Derived.Deep.QuietTactic
namespace Go.Proofs.Ytoodlmhnemamhaa
open Go.RowKit
theorem name_bad {xs : List FileR} {k : Nat} (hk : k < xs.length) (h : nameB (atFile xs k).name = false) : nameStep (xs.map datFile) k = false := by
  unfold nameStep
  rw [atFD_dat xs k hk, show (datFile (atFile xs k)).1 = (atFile xs k).name from rfl, h]
  rfl
theorem name_zero {xs : List FileR} (hk : 0 < xs.length) (h : nameB (atFile xs 0).name = true) : nameStep (xs.map datFile) 0 = true := by
  unfold nameStep
  rw [atFD_dat xs 0 hk, show (datFile (atFile xs 0)).1 = (atFile xs 0).name from rfl, h]
  rfl
theorem name_next {xs : List FileR} {k : Nat} (hk : k < xs.length) (h0 : 0 < k) (h : nameB (atFile xs k).name = true) : nameStep (xs.map datFile) k = ltN (atFile xs (k - 1)).name (atFile xs k).name := by
  unfold nameStep
  rw [atFD_dat xs k hk, atFD_dat xs (k - 1) (by omega), show (datFile (atFile xs k)).1 = (atFile xs k).name from rfl, h, show (datFile (atFile xs (k - 1))).1 = (atFile xs (k - 1)).name from rfl]
  simp
  omega
theorem op_step {w : World} {room : Int} {l : List FD} {xs : List FsOpR} {k : Nat} (hk : k < xs.length) (hr : Rd (encI .u8) 1 w (atFsOp xs k).dataA (atFsOp xs k).dataN (atFsOp xs k).dataC (atFsOp xs k).data) : runF room l ((xs.map datFsOp).drop k) = if opB (atFsOp xs k).kind (atFsOp xs k).name (atFsOp xs k).dst (atFsOp xs k).dataN && (fitsB l (datFsOp (atFsOp xs k)) && decide ((sizeF (makeF l (datFsOp (atFsOp xs k))) : Int) ≤ room)) then runF room (makeF l (datFsOp (atFsOp xs k))) ((xs.map datFsOp).drop (k + 1)) else none := by
  have hk2 : k < (xs.map datFsOp).length := by rw [List.length_map]; exact hk
  have e : (xs.map datFsOp)[k] = datFsOp (atFsOp xs k) := by rw [List.getElem_map, atFsOp_eq xs k hk]
  rw [runF_drop hk2, e]
  unfold opOk
  rw [show (datFsOp (atFsOp xs k)).2.2.2.length = (atFsOp xs k).dataN from hr.len]
  rfl
set_option maxRecDepth 100000 in
set_option maxHeartbeats 12800000 in
theorem diskOk_spec_y (y : DiskR) (w : World) (g : rdDisk w y) (hst : strDisk y) (gi : In64 y.room ∧ In64 y.fuse) (hn : bulkDisk y ≤ 1048576) :
    Calls Try.prog 21 #[.agg #[.int .i64 y.room, .int .i64 y.fuse, .slice y.filesA y.filesN y.filesC, .slice y.waitA y.waitN y.waitC]] w fun e w' => e = .returned (.bool (diskB y.room y.fuse (y.files.map datFile) (y.wait.map datFsOp))) ∧ Below w.heap.size w w' := by
  by_cases hh : 0 ≤ y.room ∧ y.room ≤ 200000 ∧ -1 ≤ y.fuse ∧ y.fuse ≤ 2000 ∧ y.filesN ≤ 12 ∧ y.waitN ≤ 60
  case neg => exact diskOk_spec_n y w g hst gi hn hh
  obtain ⟨room, fuse, fA, fN, fC, fs, oA, oN, oC, os⟩ := y
  obtain ⟨⟨gf, gfi⟩, go, goi⟩ := g
  obtain ⟨hst1, hst2⟩ := hst
  unfold bulkDisk at hn
  obtain ⟨gi1, gi2⟩ := gi
  unfold In64 at gi1 gi2
  simp only [fR, oR] at gf gfi go goi hst1 hst2 hn gi1 gi2 hh ⊢
  have HSB : Hid (sizeF (fs.map datFile) ≤ 1048576) := Lib.hid (by have := size_bulk (w := w) (y := ⟨fA, fN, fC, fs⟩) ⟨gf, gfi⟩; unfold datFileS at this; simp only at this; omega)
  have HFL : Hid (fs.length = fN) := Lib.hid gf.len
  have HOL : Hid (os.length = oN) := Lib.hid go.len
  have HDN : Hid (∀ k, k < os.length → (atFsOp os k).dataN ≤ 1048576) := Lib.hid (fun k hk => by
    have h1 := preFsOp_top os k hk
    have h2 : bulkFsOpS ⟨oA, oN, oC, os⟩ = oN + preFsOp os os.length := rfl
    have h3 : (atFsOp os k).dataN ≤ bulkFsOp (atFsOp os k) := by unfold bulkFsOp; omega
    omega)
  have HG := Lib.hid gfi
  have HGO := Lib.hid goi
  have HS1 := Lib.hid hst1
  have HS2 := Lib.hid hst2
  have fm := gf.max
  have fl := gf.le
  have om := go.max
  have ol := go.le
  unfold maxLen at fm om
  have hb0 := (Below.refl w.heap.size w).alloc (Nat.le_refl _) (.cells #[.int .i64 room, .int .i64 fuse, .slice fA fN fC, .slice oA oN oC] 34)
  clear gfi goi hst1 hst2 hn
  obtain ⟨r0, r1, u0, u1, n12, n60⟩ := hh
  have HHH := Lib.hid (show 0 ≤ room ∧ room ≤ 200000 ∧ -1 ≤ fuse ∧ fuse ≤ 2000 ∧ (fs.map datFile).length ≤ 12 ∧ (os.map datFsOp).length ≤ 60 from by rw [List.length_map, List.length_map, HFL.out, HOL.out]; exact ⟨r0, r1, u0, u1, n12, n60⟩)
  have C0 : (w.alloc (.cells #[.int .i64 room, .int .i64 fuse, .slice fA fN fC, .slice oA oN oC] 34)).cell? ⟨w.heap.size, 0, none⟩ = some (.int .i64 room) := by simp [go_sem]
  have C1 : (w.alloc (.cells #[.int .i64 room, .int .i64 fuse, .slice fA fN fC, .slice oA oN oC] 34)).cell? ⟨w.heap.size, 1, none⟩ = some (.int .i64 fuse) := by simp [go_sem]
  have C2 : (w.alloc (.cells #[.int .i64 room, .int .i64 fuse, .slice fA fN fC, .slice oA oN oC] 34)).cell? ⟨w.heap.size, 2, none⟩ = some (.slice fA fN fC) := by simp [go_sem]
  have C3 : (w.alloc (.cells #[.int .i64 room, .int .i64 fuse, .slice fA fN fC, .slice oA oN oC] 34)).cell? ⟨w.heap.size, 3, none⟩ = some (.slice oA oN oC) := by simp [go_sem]
  have HF0 := Lib.hid (show rdFileS _ ⟨fA, fN, fC, fs⟩ from rdFileS_below (w := w) ⟨gf, HG.out⟩ hb0 (Nat.le_refl _))
  have d0 : decide (room < 0) = false := decide_eq_false (by omega)
  have d1 : decide (200000 < room) = false := decide_eq_false (by omega)
  have d2 : decide (fuse < -1) = false := decide_eq_false (by omega)
  have d3 : decide (2000 < fuse) = false := decide_eq_false (by omega)
  have d4 : decide ((12 : Int) < (fN : Int)) = false := decide_eq_false (by omega)
  have d5 : decide ((60 : Int) < (oN : Int)) = false := decide_eq_false (by omega)
  have nf : ¬ (12 : Int) < (fN : Int) := by omega
  have no : ¬ (60 : Int) < (oN : Int) := by omega
  have q0 : ¬ room < 0 := by omega
  have q1 : ¬ 200000 < room := by omega
  have q2 : ¬ fuse < -1 := by omega
  have q3 : ¬ 2000 < fuse := by omega
  go_enter Try.func21, Try.ntmps21
  go_wp2_with fail
  generalize w.alloc (.cells #[.int .i64 room, .int .i64 fuse, .slice fA fN fC, .slice oA oN oC] 34) = W0 at *
  go_region_held3 (fun w' => w'.cell? ⟨w.heap.size, 0, none⟩ = some (.int .i64 room) ∧ w'.cell? ⟨w.heap.size, 1, none⟩ = some (.int .i64 fuse) ∧ w'.cell? ⟨w.heap.size, 2, none⟩ = some (.slice fA fN fC) ∧ w'.cell? ⟨w.heap.size, 3, none⟩ = some (.slice oA oN oC) ∧ Below W0.heap.size W0 w')
    (first | exact keepd4 (by assumption) | exact keep4 (by assumption) (Nat.le_refl _) (by assumption) | exact ⟨C0, C1, C2, C3, (Below.refl _ _).drew⟩)
    (first | (go_at_call 48; refine (l02Bytes_any ⟨fA, fN, fC, fs⟩ _ (rdFileS_below HF0.out (tail4 (by assumption)) (Nat.le_refl _)) (by have := HSB.out; unfold datFileS; simp only; omega)).mono ?_; rintro e w1 ⟨rfl, hb1⟩))
  obtain ⟨X0, X1, X2, X3, hbW⟩ : w1.cell? ⟨w.heap.size, 0, none⟩ = some (.int .i64 room) ∧ w1.cell? ⟨w.heap.size, 1, none⟩ = some (.int .i64 fuse) ∧ w1.cell? ⟨w.heap.size, 2, none⟩ = some (.slice fA fN fC) ∧ w1.cell? ⟨w.heap.size, 3, none⟩ = some (.slice oA oN oC) ∧ Below W0.heap.size W0 w1 := by assumption
  have BB1 := hb0.trans (hbW.mono hb0.size)
  clear d0 d1 d2 d3 d4 d5 q0 q1 q2 q3 nf no C0 C1 C2 C3 hb1 hbW
  have HDS : Hid (datFileS ⟨fA, fN, fC, fs⟩ = fs.map datFile) := Lib.hid rfl
  rw [HDS.out]
  by_cases hsz : room < (sizeF (fs.map datFile) : Int)
  · have HX := Lib.hid (diskB_size (fuse := fuse) (O := os.map datFsOp) hsz)
    go_wp2
    go_ret
    exact ⟨by rw [HX.out] <;> rfl, BB1⟩
  have HSZ := Lib.hid hsz
  go_wp2_with fail
  clear hsz
  go_loopw [49] (fun i wr => ∃ k : Nat, k ≤ fN ∧ i = .int .i64 k ∧ Hid (∀ j, j < k → nameStep (fs.map datFile) j = true) ∧ Below w1.heap.size w1 wr) (fun i _ => fN - (intOf i).toNat)
  case atStart => exact ⟨0, Nat.zero_le _, rfl, Lib.hid (fun j hj => absurd hj (Nat.not_lt_zero j)), Below.refl _ _⟩
  case round =>
    obtain ⟨k, hk, rfl, HE, hb⟩ := hrel
    have BBr := BB1.trans (hb.mono BB1.size)
    have Y2 := cell_later hb X2
    by_cases hlt : k < fN
    · obtain ⟨b, off, rfl, hbl, hc⟩ := gf.rowFile (by omega)
      obtain ⟨k0, k1⟩ := hc k hlt
      obtain ⟨l0, _⟩ := hc (k - 1) (by omega)
      have cb : ∀ o, wr.cell? ⟨b, o, none⟩ = w.cell? ⟨b, o, none⟩ := fun o => BBr.cell (p := ⟨b, o, none⟩) hbl
      rw [← cb] at k0 k1 l0
      have hkx : k < fs.length := by rw [HFL.out]; exact hlt
      have hnm : (atFile fs k).name.size ≤ maxLen := by rw [atFile_eq fs k hkx]; exact HS1.out _ (List.getElem_mem hkx)
      have hi1 : (k : Int) < (fN : Int) := by omega
      have HB := Lib.hid (fun h => diskB_name (room := room) (fuse := fuse) (O := os.map datFsOp) (k := k) (F := fs.map datFile) (by rw [List.length_map]; exact hkx) h)
      have HN1 := Lib.hid (fun h => name_bad hkx h)
      have HN2 := Lib.hid (fun h0 h => name_next hkx h0 h)
      have HN3 : Hid (k = 0 → nameB (atFile fs k).name = true → nameStep (fs.map datFile) k = true) := Lib.hid (fun e h => by subst e; exact name_zero hkx h)
      have HW : Hid (nameStep (fs.map datFile) k = true → ∀ j, j < k + 1 → nameStep (fs.map datFile) j = true) := Lib.hid (fun h j hj => by
        by_cases e : j = k
        · rw [e]; exact h
        · exact HE.out j (by omega))
      have hs1 := toList_ltN (atFile fs (k - 1)).name (atFile fs k).name
      clear hc cb hkx HE
      generalize (atFile fs (k - 1)).name = pn at *
      generalize atFile fs k = x at *
      obtain ⟨nm, xA, xN, xC, xL⟩ := x
      try simp only at k0 k1 l0 hnm HN1 HN2 HN3 hs1
      have hal := (Below.refl wr.heap.size wr).alloc (Nat.le_refl _) (.cells #[.string nm, .slice xA xN xC] 71)
      have E0 : (wr.alloc (.cells #[.string nm, .slice xA xN xC] 71)).cell? ⟨wr.heap.size, 0, none⟩ = some (.string nm) := by simp [go_sem]
      have E2 := cell_later hal Y2
      have BBf := BBr.trans (hal.mono BBr.size)
      have hbF := hb.trans (hal.mono hb.size)
      replace l0 := cell_later hal l0
      go_wp2_with fail
      generalize wr.alloc (.cells #[.string nm, .slice xA xN xC] 71) = WF at *
      cases hnb : nameB nm with
      | false =>
        have HNB := Lib.hid hnb
        have HX := Lib.hid (HB.out (HN1.out hnb))
        clear HB HN1 HN2 HN3 HW hnb
        have HC : Hid (∀ W : World, Calls Try.prog 37 #[.string nm] W fun e w' => e = .returned (.bool false) ∧ ∃ m, w' = W.drewN m) := Lib.hid (fun W => by have h := nameOk_spec_q nm W hnm; rw [HNB.out] at h; exact h)
        go_quiet (first | (go_at_call 37; exact Calls.quiet_of (HC.out _)))
        generalize hwd : WF.drewN _ = wd
        have hbw : Below WF.heap.size WF wd := by rw [← hwd]; exact ⟨rfl, rfl, rfl, Nat.le_refl _, fun _ _ => rfl⟩
        clear hwd
        have BBw := BBf.trans (hbw.mono BBf.size)
        go_wp2
        go_ret
        exact ⟨by rw [HX.out] <;> rfl, BBw⟩
      | true =>
        have HNB := Lib.hid hnb
        by_cases hk0 : k = 0
        · subst hk0
          have HX := Lib.hid (HW.out (HN3.out rfl hnb))
          clear HB HN1 HN2 HN3 HW hnb
          have HC : Hid (∀ W : World, Calls Try.prog 37 #[.string nm] W fun e w' => e = .returned (.bool true) ∧ ∃ m, w' = W.drewN m) := Lib.hid (fun W => by have h := nameOk_spec_q nm W hnm; rw [HNB.out] at h; exact h)
          go_quiet (first | (go_at_call 37; exact Calls.quiet_of (HC.out _)))
          generalize hwd : WF.drewN _ = wd
          have hbw : Below WF.heap.size WF wd := by rw [← hwd]; exact ⟨rfl, rfl, rfl, Nat.le_refl _, fun _ _ => rfl⟩
          clear hwd
          have hbw2 := hbF.trans (hbw.mono hbF.size)
          go_wp2
          go_roundw
          case rel => exact ⟨0 + 1, by omega, by go_num, HX, hbw2⟩
          case measure => simp [intOf]; omega
        · have hk0' : 0 < k := by omega
          have hd0 : (0 : Int) < (k : Int) := by omega
          have hd1 : IntKind.i64.wrap ((k : Int) - 1) = (k : Int) - 1 := IntWalk.i64_in _ (by omega)
          have hd2 : 0 ≤ (k : Int) - 1 := by omega
          have hd3 : ((k : Int) - 1).toNat = k - 1 := by omega
          have hd4 : (k : Int) - 1 < (fN : Int) := by omega
          have hd5 : (k : Int) ≤ (fN : Int) := by omega
          have hd6 : (1 : Int) ≤ (k : Int) := by omega
          have hd7 : k ≤ fN := by omega
          cases hq : ltN pn nm with
          | true =>
            rw [hq] at hs1
            have HX := Lib.hid (HW.out (by rw [HN2.out hk0' hnb]; exact hq))
            clear HB HN1 HN2 HN3 HW hnb hq
            go_region_held3 (fun w' => w'.cell? ⟨wr.heap.size, 0, none⟩ = some (.string nm) ∧ w'.cell? ⟨w.heap.size, 2, none⟩ = some (.slice (some ⟨b, off, none⟩) fN fC) ∧ w'.cell? ⟨b, off + (k - 1) * 2, none⟩ = some (.string pn) ∧ Below WF.heap.size WF w')
              (first | exact keepd3 (by assumption) | exact keep3 (by assumption) (Nat.le_refl _) (by assumption) | exact ⟨E0, E2, l0, (Below.refl _ _).drew⟩)
              (first | (go_at_call 37; refine (nameOk_spec nm _ hnm).mono ?_; rintro e w3 ⟨rfl, hb3⟩; rw [HNB.out]))
            have hbw : Below WF.heap.size WF _ := tail3 (by assumption)
            have hbw2 := hbF.trans (hbw.mono hbF.size)
            go_wp2
            go_roundw
            case rel => exact ⟨k + 1, by omega, by go_num, HX, hbw2⟩
            case measure => simp [intOf]; omega
          | false =>
            rw [hq] at hs1
            have HX := Lib.hid (HB.out (by rw [HN2.out hk0' hnb]; exact hq))
            clear HB HN1 HN2 HN3 HW hnb hq
            go_region_held3 (fun w' => w'.cell? ⟨wr.heap.size, 0, none⟩ = some (.string nm) ∧ w'.cell? ⟨w.heap.size, 2, none⟩ = some (.slice (some ⟨b, off, none⟩) fN fC) ∧ w'.cell? ⟨b, off + (k - 1) * 2, none⟩ = some (.string pn) ∧ Below WF.heap.size WF w')
              (first | exact keepd3 (by assumption) | exact keep3 (by assumption) (Nat.le_refl _) (by assumption) | exact ⟨E0, E2, l0, (Below.refl _ _).drew⟩)
              (first | (go_at_call 37; refine (nameOk_spec nm _ hnm).mono ?_; rintro e w3 ⟨rfl, hb3⟩; rw [HNB.out]))
            have hbw : Below WF.heap.size WF _ := tail3 (by assumption)
            have BBw := BBf.trans (hbw.mono BBf.size)
            go_wp2
            go_ret
            exact ⟨by rw [HX.out] <;> rfl, BBw⟩
    · obtain rfl : k = fN := by omega
      have HRUN := Lib.hid (diskB_run HHH.out (fun j hj => HE.out j (by rw [List.length_map, HFL.out] at hj; exact hj)) (by have := HSZ.out; omega))
      obtain ⟨w2, hw2⟩ : ∃ w2, w2 = wr := ⟨_, rfl⟩
      subst hw2
      have Y0 := cell_later hb X0
      have Y3 := cell_later hb X3
      have HQ0 : Hid (rdFileS w2 ⟨fA, k, fC, fs⟩) := Lib.hid (rdFileS_below (w := w) ⟨gf, HG.out⟩ BBr (Nat.le_refl _))
      have HGO2 : Hid (Rd encFsOp 4 w2 oA oN oC os) := Lib.hid (go.below BBr (Nat.le_refl _))
      have HGI2 : Hid (∀ x ∈ os, rdFsOp w2 x) := Lib.hid (fun x hx => rdFsOp_below (HGO.out x hx) BBr (Nat.le_refl _))
      have go2 := HGO2.out
      clear X0 X1 X2 X3 hb HE
      go_wp2_with fail
      go_loopw [5, 80] (fun l i wr => ∃ (t : Nat) (q : Row FileR), t ≤ oN ∧ l = .slice q.a q.n q.c ∧ i = .int .i64 t ∧ rdFileS wr q ∧ Hid (runF room (fs.map datFile) (os.map datFsOp) = runF room (datFileS q) ((os.map datFsOp).drop t)) ∧ q.n ≤ 12 + t ∧ sizeF (datFileS q) ≤ 1048576 ∧ Below w2.heap.size w2 wr) (fun _ i _ => oN - (intOf i).toNat)
      case atStart => exact ⟨0, ⟨fA, k, fC, fs⟩, Nat.zero_le _, rfl, rfl, HQ0.out, Lib.hid (by rw [List.drop_zero]; rfl), by show k ≤ 12 + 0; omega, HSB.out, Below.refl _ _⟩
      case round =>
        obtain ⟨t, q, ht, rfl, rfl, hq, HR, hqn, hqs, hb⟩ := hrel
        have BBq := BBr.trans (hb.mono BBr.size)
        have Z0 := cell_later hb Y0
        by_cases hlt : t < oN
        · obtain ⟨b, off, rfl, hbl, hc⟩ := go2.rowFsOp (by omega)
          obtain ⟨k0, k1, k2, k3⟩ := hc t hlt
          have cb : ∀ o, wr.cell? ⟨b, o, none⟩ = w2.cell? ⟨b, o, none⟩ := fun o => hb.cell (p := ⟨b, o, none⟩) hbl
          rw [← cb] at k0 k1 k2 k3
          have htx : t < os.length := by rw [HOL.out]; exact hlt
          have hti : (t : Int) < (oN : Int) := by omega
          have HXR : Hid (rdFsOp wr (atFsOp os t)) := Lib.hid (by rw [atFsOp_eq os t htx]; exact rdFsOp_below (HGI2.out _ (List.getElem_mem htx)) hb (Nat.le_refl _))
          have HXS : Hid (strFsOp (atFsOp os t)) := Lib.hid (by rw [atFsOp_eq os t htx]; exact HS2.out _ (List.getElem_mem htx))
          have hdn := HDN.out t htx
          have HST := Lib.hid (op_step (room := room) (l := datFileS q) htx HXR.out)
          clear hc cb htx
          generalize atFsOp os t = x at *
          obtain ⟨ok, onm, odst, xA, xN, xC, xL⟩ := x
          try simp only at k0 k1 k2 k3 HST hdn
          have hal := (Below.refl wr.heap.size wr).alloc (Nat.le_refl _) (.cells #[.int .i64 ok, .string onm, .string odst, .slice xA xN xC] 27)
          have E0 : (wr.alloc (.cells #[.int .i64 ok, .string onm, .string odst, .slice xA xN xC] 27)).cell? ⟨wr.heap.size, 0, none⟩ = some (.int .i64 ok) := by simp [go_sem]
          have E1 : (wr.alloc (.cells #[.int .i64 ok, .string onm, .string odst, .slice xA xN xC] 27)).cell? ⟨wr.heap.size, 1, none⟩ = some (.string onm) := by simp [go_sem]
          have E2 : (wr.alloc (.cells #[.int .i64 ok, .string onm, .string odst, .slice xA xN xC] 27)).cell? ⟨wr.heap.size, 2, none⟩ = some (.string odst) := by simp [go_sem]
          have E3 : (wr.alloc (.cells #[.int .i64 ok, .string onm, .string odst, .slice xA xN xC] 27)).cell? ⟨wr.heap.size, 3, none⟩ = some (.slice xA xN xC) := by simp [go_sem]
          have hbF := hb.trans (hal.mono hb.size)
          have BBF := BBq.trans (hal.mono BBq.size)
          have F0 := cell_later hal Z0
          have HXF := Lib.hid (rdFsOp_below HXR.out hal (Nat.le_refl _))
          have HQF := Lib.hid (rdFileS_below hq hal (Nat.le_refl _))
          go_wp2_with fail
          generalize wr.alloc (.cells #[.int .i64 ok, .string onm, .string odst, .slice xA xN xC] 27) = WF at *
          refine (fsOpOk_spec ok onm odst xA xN xC xL _ HXF.out HXS.out.1 HXS.out.2).mono ?_
          rintro e w3 ⟨rfl, hb3⟩
          have G0 := cell_later hb3 E0
          have G1 := cell_later hb3 E1
          have G2 := cell_later hb3 E2
          have G3 := cell_later hb3 E3
          have H0 := cell_later hb3 F0
          have hb3F := hbF.trans (hb3.mono hbF.size)
          have BB3 := BBF.trans (hb3.mono BBF.size)
          have HQ3 := Lib.hid (rdFileS_below HQF.out hb3 (Nat.le_refl _))
          have HX3 := Lib.hid (rdFsOp_below HXF.out hb3 (Nat.le_refl _))
          clear E0 E1 E2 E3 F0 Z0 hal hq
          cases hop : opB ok onm odst xN with
          | false =>
            have HX : Hid (diskB room fuse (fs.map datFile) (os.map datFsOp) = false) := Lib.hid (by rw [HRUN.out, HR.out, HST.out, hop]; rfl)
            clear HST HR HRUN
            go_wp2
            go_ret
            exact ⟨by rw [HX.out] <;> rfl, BB3⟩
          | true =>
            have HOP := Lib.hid hop
            clear hop
            go_wp2_with fail
            refine (l02Fits_any q ⟨ok, onm, odst, xA, xN, xC, xL⟩ _ HQ3.out).mono ?_
            rintro e w4 ⟨rfl, hb4⟩
            have I0 := cell_later hb4 G0
            have I1 := cell_later hb4 G1
            have I2 := cell_later hb4 G2
            have I3 := cell_later hb4 G3
            have J0 := cell_later hb4 H0
            have hb4F := hb3F.trans (hb4.mono hb3F.size)
            have BB4 := BB3.trans (hb4.mono BB3.size)
            have HQ4 := Lib.hid (rdFileS_below HQ3.out hb4 (Nat.le_refl _))
            have HX4 := Lib.hid (rdFsOp_below HX3.out hb4 (Nat.le_refl _))
            clear G0 G1 G2 G3 H0
            cases hft : fitsB (datFileS q) (datFsOp ⟨ok, onm, odst, xA, xN, xC, xL⟩) with
            | false =>
              have HX : Hid (diskB room fuse (fs.map datFile) (os.map datFsOp) = false) := Lib.hid (by rw [HRUN.out, HR.out, HST.out, HOP.out, hft]; rfl)
              clear HST HR HRUN
              go_wp2
              go_ret
              exact ⟨by rw [HX.out] <;> rfl, BB4⟩
            | true =>
              have HFT := Lib.hid hft
              have hsm := size_make (datFileS q) (datFsOp ⟨ok, onm, odst, xA, xN, xC, xL⟩)
              have hlm := len_make (datFileS q) (datFsOp ⟨ok, onm, odst, xA, xN, xC, xL⟩)
              have hsm2 : sizeF (makeF (datFileS q) (datFsOp ⟨ok, onm, odst, xA, xN, xC, xL⟩)) ≤ 10000000 := by
                have h5 : (datFsOp ⟨ok, onm, odst, xA, xN, xC, xL⟩).2.2.2.length = xN := Rd.len HX4.out
                omega
              have hlm2 : (makeF (datFileS q) (datFsOp ⟨ok, onm, odst, xA, xN, xC, xL⟩)).length ≤ 12 + (t + 1) := by
                have h5 : (datFileS q).length = q.n := by unfold datFileS; rw [List.length_map]; exact HQ4.out.1.len
                omega
              clear hft hsm hlm
              go_wp2_with fail
              refine (l02Make_any q ⟨ok, onm, odst, xA, xN, xC, xL⟩ _ HQ4.out HX4.out (by omega) (by omega) (by show xN ≤ 10000000; omega) HFT.out).mono ?_
              rintro e w5 ⟨q2, rfl, hd2, hr2, hb5, _⟩
              have K0 := cell_later hb5 J0
              have hb5F := hb4F.trans (hb5.mono hb4F.size)
              have BB5 := BB4.trans (hb5.mono BB4.size)
              have HQ5 := Lib.hid hr2
              have hq2n : q2.n ≤ 12 + (t + 1) := by
                have h5 : (datFileS q2).length = q2.n := by unfold datFileS; rw [List.length_map]; exact HQ5.out.1.len
                rw [hd2] at h5
                omega
              rw [← hd2] at hsm2 HST
              clear I0 I1 I2 I3 J0 hr2 hlm2 hd2
              go_wp2_with fail
              go_region_held3 (fun w' => w'.cell? ⟨w.heap.size, 0, none⟩ = some (.int .i64 room) ∧ Below w5.heap.size w5 w')
                (first | exact keepd1 (by assumption) | exact keep1 (by assumption) (Nat.le_refl _) (by assumption) | exact ⟨K0, (Below.refl _ _).drew⟩)
                (first | (go_at_call 48; refine (l02Bytes_any q2 _ (rdFileS_below HQ5.out (tail1 (by assumption)) (Nat.le_refl _)) (by omega)).mono ?_; rintro e w6 ⟨rfl, hb6⟩))
              obtain ⟨L0, hbw⟩ : w6.cell? ⟨w.heap.size, 0, none⟩ = some (.int .i64 room) ∧ Below w5.heap.size w5 w6 := by assumption
              have hb6F := hb5F.trans (hbw.mono hb5F.size)
              have BB6 := BB5.trans (hbw.mono BB5.size)
              have HQ6 := Lib.hid (rdFileS_below HQ5.out hbw (Nat.le_refl _))
              by_cases hrm : room < (sizeF (datFileS q2) : Int)
              · have HX : Hid (diskB room fuse (fs.map datFile) (os.map datFsOp) = false) := Lib.hid (by rw [HRUN.out, HR.out, HST.out, HOP.out, HFT.out, decide_eq_false (by omega)]; rfl)
                clear HST HR HRUN
                go_wp2
                go_ret
                exact ⟨by rw [HX.out] <;> rfl, BB6⟩
              · have HX : Hid (runF room (fs.map datFile) (os.map datFsOp) = runF room (datFileS q2) ((os.map datFsOp).drop (t + 1))) := Lib.hid (by rw [HR.out, HST.out, HOP.out, HFT.out, decide_eq_true (by omega)]; rfl)
                have hs6 : sizeF (datFileS q2) ≤ 1048576 := by omega
                have hdr : ¬ room < (sizeF (datFileS q2) : Int) := hrm
                clear HST HR
                go_wp2
                go_roundw
                case rel => exact ⟨t + 1, q2, by omega, rfl, by go_num, HQ6.out, HX, hq2n, hs6, hb6F⟩
                case measure => simp [intOf]; omega
        · obtain rfl : t = oN := by omega
          have HX : Hid (diskB room fuse (fs.map datFile) (os.map datFsOp) = true) := Lib.hid (by
            rw [HRUN.out, HR.out, List.drop_of_length_le (by rw [List.length_map, HOL.out]; exact Nat.le_refl _)]
            rfl)
          go_wp2
          go_ret
          exact ⟨by rw [HX.out] <;> rfl, BBq⟩
end Go.Proofs.Ytoodlmhnemamhaa

/- seenOf of the program. -/
import Derived.Test.YtoodlmhnemamhaaDiskDo1
import Derived.Test.YtoodlmhnemamhaaDiskOkS
namespace Go.Proofs.Ytoodlmhnemamhaa
open Go.RowKit Go.Maps Go.WideMaps
theorem opB_kind {k : Int} {nm to : ByteArray} {n : Nat} (h : opB k nm to n = true) : k = 1 ∨ k = 2 ∨ k = 3 ∨ k = 4 := by
  unfold opB at h
  by_cases h1 : k = 1 ∨ k = 4
  · omega
  · by_cases h2 : k = 2
    · omega
    · by_cases h3 : k = 3
      · omega
      · simp [h1, h2, h3] at h
/-- What seenOf hands back. -/
def RetSeen (S : Option (List FD)) (w : World) (en : Ending) (w' : World) : Prop :=
  ((S = Option.none ∧ en = .returned (.tuple #[.map Option.none, .bool false])) ∨ ∃ (b n : Nat) (M : List (ByteArray × Row Int)), S = some (datM M) ∧ en = .returned (.tuple #[.map (some b), .bool true]) ∧ FM w' b n M ∧ n ≤ 1000 ∧ w.heap.size ≤ b) ∧ Below w.heap.size w w'
theorem RetSeen.no {S : Option (List FD)} {w w' : World} (h : S = Option.none) (hb : Below w.heap.size w w') : RetSeen S w (.returned (.tuple #[.map Option.none, .bool false])) w' := ⟨Or.inl ⟨h, rfl⟩, hb⟩
theorem cell_win1 {w w' : World} {b X o : Nat} {v : Value} (hw : Win b (b + 1) w w') (h : w.cell? ⟨X, o, Option.none⟩ = some v) (hX : X ≠ b) : w'.cell? ⟨X, o, Option.none⟩ = some v := cell_win hw h (by show X < b ∨ b + 1 ≤ X; omega)
set_option maxRecDepth 100000 in
set_option maxHeartbeats 12800000 in
theorem seenOf_any (y : DiskR) (w : World) (g : rdDisk w y) (hst : strDisk y) (hn : bulkDisk y ≤ 1048576) (n12 : y.filesN ≤ 12) (n60 : y.waitN ≤ 60) (hr0 : y.room ≤ 200000) (hnm : ∀ k, k < (y.files.map datFile).length → nameStep (y.files.map datFile) k = true) :
    Calls Try.prog 53 #[.agg #[.int .i64 y.room, .int .i64 y.fuse, .slice y.filesA y.filesN y.filesC, .slice y.waitA y.waitN y.waitC]] w fun e w' => RetSeen (seenB y.room (y.files.map datFile) (y.wait.map datFsOp)) w e w' := by
  obtain ⟨room, fuse, fA, fN, fC, fs, oA, oN, oC, os⟩ := y
  obtain ⟨⟨gf, gfi⟩, go, goi⟩ := g
  obtain ⟨hst1, hst2⟩ := hst
  unfold bulkDisk at hn
  simp only [fR, oR] at gf gfi go goi hst1 hst2 hn n12 n60 hr0 hnm ⊢
  have HSB : Hid (sizeF (fs.map datFile) ≤ 1048576) := Lib.hid (by have := size_bulk (w := w) (y := ⟨fA, fN, fC, fs⟩) ⟨gf, gfi⟩; unfold datFileS at this; simp only at this; omega)
  have HFL : Hid (fs.length = fN) := Lib.hid gf.len
  have HOL : Hid (os.length = oN) := Lib.hid go.len
  have HDN : Hid (∀ k, k < os.length → (atFsOp os k).dataN ≤ 1048576) := Lib.hid (fun k hk => by
    have h1 := preFsOp_top os k hk
    have h2 : bulkFsOpS ⟨oA, oN, oC, os⟩ = oN + preFsOp os os.length := rfl
    have h3 : (atFsOp os k).dataN ≤ bulkFsOp (atFsOp os k) := by unfold bulkFsOp; omega
    omega)
  have HS1 : Hid (∀ f ∈ fs, f.name.size ≤ maxLen) := Lib.hid hst1
  have HS2 := Lib.hid hst2
  have HAS : Hid (∀ k, k < fN → ∀ j, j < k → ltN (atFile fs j).name (atFile fs k).name = true) := Lib.hid (fun k hk j hj => by
    have h1 := names_below (namesB_all hnm) k (by rw [List.length_map, HFL.out]; exact hk) j hj
    rw [atFD_dat fs k (by rw [HFL.out]; exact hk), atFD_dat fs j (by rw [HFL.out]; omega)] at h1
    exact h1)
  have om := go.max
  have ol := go.le
  unfold maxLen at om
  have hb0 := (Below.refl w.heap.size w).alloc (Nat.le_refl _) (.cells #[.int .i64 room, .int .i64 fuse, .slice fA fN fC, .slice oA oN oC] 34)
  have HGO : Hid (∀ x ∈ os, rdFsOp w x) := Lib.hid goi
  have HF0 := Lib.hid (show rdFileS _ ⟨fA, fN, fC, fs⟩ from rdFileS_below (w := w) ⟨gf, gfi⟩ hb0 (Nat.le_refl _))
  have C0 : (w.alloc (.cells #[.int .i64 room, .int .i64 fuse, .slice fA fN fC, .slice oA oN oC] 34)).cell? ⟨w.heap.size, 0, Option.none⟩ = some (.int .i64 room) := by simp [go_sem]
  have C3 : (w.alloc (.cells #[.int .i64 room, .int .i64 fuse, .slice fA fN fC, .slice oA oN oC] 34)).cell? ⟨w.heap.size, 3, Option.none⟩ = some (.slice oA oN oC) := by simp [go_sem]
  have hz0 : w.heap.size < (w.alloc (.cells #[.int .i64 room, .int .i64 fuse, .slice fA fN fC, .slice oA oN oC] 34)).heap.size := by simp
  clear gfi goi hst1 hst2 hn hnm
  go_enter Try.func53, Try.ntmps53
  go_wp2_with fail
  generalize w.alloc (.cells #[.int .i64 room, .int .i64 fuse, .slice fA fN fC, .slice oA oN oC] 34) = W0 at *
  refine (filesOf_any ⟨fA, fN, fC, fs⟩ _ HF0.out HS1.out (by show fN ≤ 1000; omega) HAS.out).mono ?_
  rintro e w1 ⟨b, rfl, hbb, hf1, hb1⟩
  have HM1 := Lib.hid hf1
  have hWb : w.heap.size < b := by omega
  have D0 := cell_later hb1 C0
  have D3 := cell_later hb1 C3
  have BB1 := hb0.trans (hb1.mono hb0.size)
  have HDM : Hid (datM (fs.map prF) = fs.map datFile) := Lib.hid (datM_pr fs)
  have HSZ : Hid (sizeM (fs.map prF) = sizeF (fs.map datFile)) := Lib.hid (by rw [sizeM_dat HM1.out, HDM.out])
  clear C0 C3 hf1 hb1 HF0
  generalize fs.map prF = M0 at *
  go_wp2_with fail
  go_region_held3 (fun w' => w'.cell? ⟨w.heap.size, 0, Option.none⟩ = some (.int .i64 room) ∧ Below w1.heap.size w1 w')
    (first | exact keepd1 (by assumption) | exact keep1 (by assumption) (Nat.le_refl _) (by assumption) | exact ⟨D0, (Below.refl _ _).drew⟩)
    (first | (go_at_call 61; refine (sizeM_any b fN M0 _ (HM1.out.later (tail1 (by assumption))) (by rw [HSZ.out]; have := HSB.out; omega)).mono ?_; rintro e w2 ⟨rfl, hb2⟩))
  obtain ⟨E0, hbw⟩ : w2.cell? ⟨w.heap.size, 0, Option.none⟩ = some (.int .i64 room) ∧ Below w1.heap.size w1 w2 := by assumption
  have BB2 := BB1.trans (hbw.mono BB1.size)
  have HM2 := Lib.hid (HM1.out.later hbw)
  have E3 := cell_later hbw D3
  rw [HSZ.out]
  clear D0 D3 hb2 HM1 hbw
  by_cases hsz : room < (sizeF (fs.map datFile) : Int)
  · have HX : Hid (seenB room (fs.map datFile) (os.map datFsOp) = Option.none) := Lib.hid (by unfold seenB; rw [if_neg (by omega)])
    go_wp2
    refine bodyPost_ret (v := .tuple #[.map Option.none, .bool false]) (by simp [results, Try.results53, go_sem]) rfl ?_
    exact RetSeen.no HX.out BB2
  have HRUN : Hid (seenB room (fs.map datFile) (os.map datFsOp) = runF room (fs.map datFile) (os.map datFsOp)) := Lib.hid (by unfold seenB; rw [if_pos (by omega)])
  have HGI2 : Hid (∀ x ∈ os, rdFsOp w2 x) := Lib.hid (fun x hx => rdFsOp_below (HGO.out x hx) BB2 (Nat.le_refl _))
  have go2 := go.below BB2 (Nat.le_refl _)
  have hz2 : w.heap.size < w2.heap.size := by have := BB2.size; have := World.block_lt_of_cell? _ _ E0; exact this
  go_wp2_with fail
  go_loopw [18] (fun i wr => ∃ (t n : Nat) (M : List (ByteArray × Row Int)), t ≤ oN ∧ i = .int .i64 t ∧ Hid (FM wr b n M) ∧ n ≤ fN + t ∧ Hid (runF room (fs.map datFile) (os.map datFsOp) = runF room (datM M) ((os.map datFsOp).drop t)) ∧ sizeF (datM M) ≤ 1048576 ∧ wr.cell? ⟨w.heap.size, 0, Option.none⟩ = some (.int .i64 room) ∧ Below w.heap.size w wr) (fun i _ => oN - (intOf i).toNat)
  case atStart => exact ⟨0, fN, M0, Nat.zero_le _, rfl, HM2, Nat.le_refl _, Lib.hid (by rw [List.drop_zero, HDM.out]), by rw [HDM.out]; exact HSB.out, E0, BB2⟩
  case round =>
    obtain ⟨t, n, M, ht, rfl, HM, hn1, HR, hms, Z0, BBq⟩ := hrel
    by_cases hlt : t < oN
    · obtain ⟨bo, off, rfl, hbl, hc⟩ := go.rowFsOp (by omega)
      obtain ⟨k0, k1, k2, k3⟩ := hc t hlt
      have cb : ∀ o, wr.cell? ⟨bo, o, Option.none⟩ = w.cell? ⟨bo, o, Option.none⟩ := fun o => BBq.cell (p := ⟨bo, o, Option.none⟩) hbl
      rw [← cb] at k0 k1 k2 k3
      have htx : t < os.length := by rw [HOL.out]; exact hlt
      have hti : (t : Int) < (oN : Int) := by omega
      have HXR : Hid (rdFsOp wr (atFsOp os t)) := Lib.hid (by rw [atFsOp_eq os t htx]; exact rdFsOp_below (HGO.out _ (List.getElem_mem htx)) BBq (Nat.le_refl _))
      have HXS : Hid (strFsOp (atFsOp os t)) := Lib.hid (by rw [atFsOp_eq os t htx]; exact HS2.out _ (List.getElem_mem htx))
      have hdn := HDN.out t htx
      have HST := Lib.hid (op_step (room := room) (l := datM M) htx HXR.out)
      clear hc cb htx
      generalize atFsOp os t = x at *
      obtain ⟨ok, onm, odst, xA, xN, xC, xL⟩ := x
      try simp only at k0 k1 k2 k3 HST hdn
      have hal := (Below.refl wr.heap.size wr).alloc (Nat.le_refl _) (.cells #[.int .i64 ok, .string onm, .string odst, .slice xA xN xC] 27)
      have F0 : (wr.alloc (.cells #[.int .i64 ok, .string onm, .string odst, .slice xA xN xC] 27)).cell? ⟨wr.heap.size, 0, Option.none⟩ = some (.int .i64 ok) := by simp [go_sem]
      have F1 : (wr.alloc (.cells #[.int .i64 ok, .string onm, .string odst, .slice xA xN xC] 27)).cell? ⟨wr.heap.size, 1, Option.none⟩ = some (.string onm) := by simp [go_sem]
      have F2 : (wr.alloc (.cells #[.int .i64 ok, .string onm, .string odst, .slice xA xN xC] 27)).cell? ⟨wr.heap.size, 2, Option.none⟩ = some (.string odst) := by simp [go_sem]
      have F3 : (wr.alloc (.cells #[.int .i64 ok, .string onm, .string odst, .slice xA xN xC] 27)).cell? ⟨wr.heap.size, 3, Option.none⟩ = some (.slice xA xN xC) := by simp [go_sem]
      have BBF := BBq.trans (hal.mono BBq.size)
      have ZF := cell_later hal Z0
      have HXF := Lib.hid (rdFsOp_below HXR.out hal (Nat.le_refl _))
      have HMF := Lib.hid (HM.out.later hal)
      go_wp2_with fail
      generalize wr.alloc (.cells #[.int .i64 ok, .string onm, .string odst, .slice xA xN xC] 27) = WF at *
      refine (fsOpOk_impl ok onm odst xA xN xC xL _ HXF.out HXS.out.1 HXS.out.2).mono ?_
      rintro e w3 ⟨rfl, hb3⟩
      have G0 := cell_later hb3 F0
      have G1 := cell_later hb3 F1
      have G2 := cell_later hb3 F2
      have G3 := cell_later hb3 F3
      have Z3 := cell_later hb3 ZF
      have BB3 := BBF.trans (hb3.mono BBF.size)
      have HM3 := Lib.hid (HMF.out.later hb3)
      have HX3 := Lib.hid (rdFsOp_below HXF.out hb3 (Nat.le_refl _))
      clear F0 F1 F2 F3 ZF Z0 hal
      cases hop : opB ok onm odst xN with
      | false =>
        have HX : Hid (seenB room (fs.map datFile) (os.map datFsOp) = Option.none) := Lib.hid (by rw [HRUN.out, HR.out, HST.out, hop]; rfl)
        clear HST HR HRUN
        go_wp2
        refine bodyPost_ret (v := .tuple #[.map Option.none, .bool false]) (by simp [results, Try.results53, go_sem]) rfl ?_
        exact RetSeen.no HX.out BB3
      | true =>
        have HOP := Lib.hid hop
        clear hop
        go_wp2_with fail
        refine (fits_any b n M ⟨ok, onm, odst, xA, xN, xC, xL⟩ _ HM3.out HXS.out).mono ?_
        rintro e w4 ⟨rfl, hb4⟩
        have I0 := cell_later hb4 G0
        have I1 := cell_later hb4 G1
        have I2 := cell_later hb4 G2
        have I3 := cell_later hb4 G3
        have Z4 := cell_later hb4 Z3
        have BB4 := BB3.trans (hb4.mono BB3.size)
        have HM4 := Lib.hid (HM3.out.later hb4)
        have HX4 := Lib.hid (rdFsOp_below HX3.out hb4 (Nat.le_refl _))
        clear G0 G1 G2 G3 Z3
        cases hft : fitsB (datM M) (datFsOp ⟨ok, onm, odst, xA, xN, xC, xL⟩) with
        | false =>
          have HX : Hid (seenB room (fs.map datFile) (os.map datFsOp) = Option.none) := Lib.hid (by rw [HRUN.out, HR.out, HST.out, HOP.out, hft]; rfl)
          clear HST HR HRUN
          go_wp2
          refine bodyPost_ret (v := .tuple #[.map Option.none, .bool false]) (by simp [results, Try.results53, go_sem]) rfl ?_
          exact RetSeen.no HX.out BB4
        | true =>
          have HFT := Lib.hid hft
          have hsm := size_make (datM M) (datFsOp ⟨ok, onm, odst, xA, xN, xC, xL⟩)
          have hsm2 : sizeF (makeF (datM M) (datFsOp ⟨ok, onm, odst, xA, xN, xC, xL⟩)) ≤ 10000000 := by
            have h5 : (datFsOp ⟨ok, onm, odst, xA, xN, xC, xL⟩).2.2.2.length = xN := Rd.len HX4.out
            omega
          clear hft hsm
          go_wp2_with fail
          refine (do_any b n M ⟨ok, onm, odst, xA, xN, xC, xL⟩ _ HM4.out HX4.out HXS.out (by omega) (opB_kind HOP.out) (by omega) (by show xN ≤ 10000000; omega)).mono ?_
          rintro e w5 ⟨rfl, ⟨M2, hM2, hd2, hl2⟩, hw5⟩
          have Z5 := cell_win1 hw5 Z4 (by omega)
          have BB5 := BB4.trans (hw5.below (by omega) BB4.size)
          have HM5 := Lib.hid hM2
          have HSM : Hid (sizeM M2 = sizeF (datM M2)) := Lib.hid (sizeM_dat hM2)
          rw [← hd2] at hsm2 HST
          clear I0 I1 I2 I3 Z4 hM2 hd2
          go_wp2_with fail
          go_region_held3 (fun w' => w'.cell? ⟨w.heap.size, 0, Option.none⟩ = some (.int .i64 room) ∧ Below w5.heap.size w5 w')
            (first | exact keepd1 (by assumption) | exact keep1 (by assumption) (Nat.le_refl _) (by assumption) | exact ⟨Z5, (Below.refl _ _).drew⟩)
            (first | (go_at_call 61; refine (sizeM_any b (n + 1) M2 _ (HM5.out.later (tail1 (by assumption))) (by rw [HSM.out]; omega)).mono ?_; rintro e w6 ⟨rfl, hb6⟩))
          obtain ⟨L0, hbw⟩ : w6.cell? ⟨w.heap.size, 0, Option.none⟩ = some (.int .i64 room) ∧ Below w5.heap.size w5 w6 := by assumption
          have BB6 := BB5.trans (hbw.mono BB5.size)
          have HM6 := Lib.hid (HM5.out.later hbw)
          rw [HSM.out]
          by_cases hrm : room < (sizeF (datM M2) : Int)
          · have HX : Hid (seenB room (fs.map datFile) (os.map datFsOp) = Option.none) := Lib.hid (by rw [HRUN.out, HR.out, HST.out, HOP.out, HFT.out, decide_eq_false (by omega)]; rfl)
            clear HST HR HRUN
            go_wp2
            refine bodyPost_ret (v := .tuple #[.map Option.none, .bool false]) (by simp [results, Try.results53, go_sem]) rfl ?_
            exact RetSeen.no HX.out BB6
          · have HX : Hid (runF room (fs.map datFile) (os.map datFsOp) = runF room (datM M2) ((os.map datFsOp).drop (t + 1))) := Lib.hid (by rw [HR.out, HST.out, HOP.out, HFT.out, decide_eq_true (by omega)]; rfl)
            have hs6 : sizeF (datM M2) ≤ 1048576 := by omega
            clear HST HR
            go_wp2
            go_roundw
            case rel => exact ⟨t + 1, n + 1, M2, by omega, by go_num, HM6, by omega, HX, hs6, L0, BB6⟩
            case measure => simp [intOf]; omega
    · obtain rfl : t = oN := by omega
      have HX : Hid (seenB room (fs.map datFile) (os.map datFsOp) = some (datM M)) := Lib.hid (by
        rw [HRUN.out, HR.out, List.drop_of_length_le (by rw [List.length_map, HOL.out]; exact Nat.le_refl _)]
        rfl)
      have hn2 : n ≤ 1000 := by omega
      have hbl : w.heap.size ≤ b := by omega
      go_wp2
      refine bodyPost_ret (v := .tuple #[.map (some b), .bool true]) (by simp [results, Try.results53, go_sem]) rfl ?_
      exact ⟨Or.inr ⟨b, n, M, HX.out, rfl, HM.out, hn2, hbl⟩, BBq⟩
end Go.Proofs.Ytoodlmhnemamhaa

/- Merge of the program and of the reference: what they compute. -/
import Derived.Test.YthffmjeodoinlaaDoorMergeP
import Derived.Test.YthffmjeodoinlaaDoorBatchSK
import Derived.Test.YthffmjeodoinlaaDoorOutR
import Derived.Test.YthffmjeodoinlaaDoorIntS
import Derived.Deep.LoopGhost
import Derived.StillTailTactics
namespace Go.Proofs.YthffmjeodoinlaaDoor
open Go.RowKit
def batD (xs : List BatchR) : List (List RecR) := xs.map datBatch
theorem batD_row (xs : List BatchR) (k : Nat) (h : k < xs.length) : rowD (batD xs) k = (atBatch xs k).recs := by
  rw [atBatch_eq xs k h]; simp [rowD, batD, h, datBatch]
theorem batD_len (xs : List BatchR) : (batD xs).length = xs.length := by simp [batD]
theorem rem_pre (xs : List BatchR) (hr : ∀ x ∈ xs, x.recs.length = x.recsN) : ∀ n, n ≤ xs.length → ((List.range n).map fun k => (rowD (batD xs) k).length).sum = preBatch xs n := by
  intro n
  induction n with
  | zero => intro _; simp [preBatch]
  | succ n ih =>
    intro h
    rw [List.range_succ, List.map_append, List.sum_append, ih (by omega), preBatch_succ xs n (by omega)]
    simp only [List.map_cons, List.map_nil, List.sum_cons, List.sum_nil, Nat.add_zero]
    rw [batD_row xs n (by omega), atBatch_eq xs n (by omega), hr _ (List.getElem_mem _)]
    rfl
def RetRecs (F : List RecR) (w : World) (en : Ending) (w' : World) : Prop := ∃ r : Row RecR, en = .returned (.slice r.a r.n r.c) ∧ datRecS r = F ∧ OwnRecS w.heap.size w'.heap.size w' r ∧ bulkRecS r ≤ 1048576 ∧ Below w.heap.size w w'
theorem infoRecB : (Tryd.prog.info? 54).map (fun i => (i.zero, i.size, i.bytes)) = some (some (.agg #[.int .i64 0, .int .i64 0, .int .i64 0]), 3, 24) := by kernel_rfl
theorem cell_new3 (w : World) (u v z : Value) (e : TypeId) : ∀ (j : Nat) (x : Value), [u, v, z][j]? = some x → (w.alloc (.cells #[u, v, z] e)).cell? (Addr.add ⟨w.heap.size, 0, none⟩ j) = some x := by
  intro j x hx
  rw [Addr.add_lit]
  have hj : j < 3 := by have := (List.getElem?_eq_some_iff.1 hx).1; simpa using this
  match j, hj with
  | 0, _ => simp at hx; subst hx; simp [go_sem]
  | 1, _ => simp at hx; subst hx; simp [go_sem]
  | 2, _ => simp at hx; subst hx; simp [go_sem]
theorem one3 (x : RecR) : ∀ u ∈ encRec x, u.oneCell' = true := by
  intro u hu
  simp [encRec] at hu
  rcases hu with rfl | rfl | rfl <;> rfl
set_option maxRecDepth 100000 in
set_option maxHeartbeats 6400000 in
theorem merge_impl_r (a : Option Addr) (n cap : Nat) (xs : List BatchR) (w : World) (g : rdBatchS w ⟨a, n, cap, xs⟩) (hn : n ≤ 1048576 ∧ preBatch xs xs.length ≤ 1048576) :
    Calls Tryd.prog 29 #[.slice a n cap] w fun e w' => RetRecs (mergeF (batD xs)) w e w' := by
  obtain ⟨gr, gi⟩ := g
  simp only at gr gi
  have hm := gr.max
  have hle := gr.le
  have hL := Lib.hid gr.len
  unfold maxLen at hm
  have hn1 := hn.1
  have hn2 : preBatch xs n ≤ 1048576 := by have := hn.2; rwa [hL.out] at this
  have HDN : Hid ((batD xs).length = n) := Lib.hid (by rw [batD_len, hL.out])
  have hrem0 : remN (batD xs) (zerosN n) n = preBatch xs n := by
    have := rem_zero (batD xs) n
    rw [HDN.out] at this
    rw [this, rem_pre xs (fun x hx => (gi x hx).len) n (by rw [hL.out]; exact Nat.le_refl _)]
  have HST : Hid (([] : List RecR) ++ mergeFrom (batD xs) (remN (batD xs) (zerosN n) n + 1) (zerosN n) = mergeF (batD xs)) := Lib.hid (by unfold mergeF; rw [HDN.out]; rfl)
  clear hn
  obtain ⟨i0, hi, hz0, hz1, hz2⟩ := info_parts infoIntS
  obtain ⟨j0, ji, jz0, jz1, jz2⟩ := info_parts infoRecB
  go_enter Tryd.func29, Tryd.ntmps29
  go_wp2_with (at_make; refine wpList_make_full _ rfl _ _ 27 rfl w.heap.size 3 i0 (.int .i64 0) 1 Tryd.underlying27 hi hz0 hz1 _ _ _ _ n rfl rfl rfl rfl ?b1 ?b2 ?b3 ?_)
  case b1 => rw [hz2]; omega
  case b2 => unfold maxLen; omega
  case b3 => simp
  intro w1 hown hgrow
  have hbel := below_grown hgrow (Nat.le_refl _) (by simp)
  have hat1 : w1.ownsRow w.heap.size 3 1 (.slice (some ⟨w.heap.size, 0, none⟩) n n) n ((zerosN n).map (.int .i64)) := by
    simpa [toList_madeCells_one, zerosN, Value.cells] using hown
  have hszB : w.heap.size < w1.heap.size := (hat1.lt _ rfl).2
  have hbw1 : Below w.heap.size w w1 := hbel
  have hout0 : OutRow w.heap.size w1.heap.size 54 3 w1 none 0 0 (([] : List RecR).flatMap encRec) := OutRow.nil _ _ _ _ _
  clear hown hgrow hi hz0 hz1 hz2 hbel
  have HBW1 := Lib.hid hbw1
  go_wp2
  skip
  go_loopg [4] (preBatch xs n) (fun gh v wr => ∃ (at' : List Int) (A : Option Addr) (r C : Nat) (ys : List RecR), v = .slice A r C ∧ at'.length = n ∧ (∀ k, 0 ≤ atI at' k) ∧ remN (batD xs) at' n = gh ∧ r + gh ≤ preBatch xs n ∧ ys.length = r ∧ wr.ownsRow w.heap.size 3 1 (.slice (some ⟨w.heap.size, 0, none⟩) n n) n (at'.map (.int .i64)) ∧ OutRow w.heap.size w1.heap.size 54 3 wr A r C (ys.flatMap encRec) ∧ ys ++ mergeFrom (batD xs) (remN (batD xs) at' n + 1) at' = mergeF (batD xs) ∧ Below w.heap.size w wr ∧ w1.heap.size ≤ wr.heap.size)
  case atStart => exact ⟨zerosN n, _, 0, 0, [], rfl, by simp [zerosN], fun k => by rw [zeros_at]; exact Int.le_refl _, hrem0, by omega, rfl, hat1, hout0, HST.out, hbw1, Nat.le_refl _⟩
  case round =>
    obtain ⟨at', A, r, C, ys, rfl, hatl, hat0, hrem, hrg, hyl, hat, hout, hys, hb, hsz⟩ := hrel
    have HATL := Lib.hid hatl
    have HAT0 := Lib.hid hat0
    have HREM := Lib.hid hrem
    have HYL := Lib.hid hyl
    have HYS := Lib.hid hys
    have HAT := Lib.hid hat
    have HOUT := Lib.hid hout
    have ATC := Lib.hid (fun k (hk : k < n) => (by rw [hat.cellAt k (by omega), List.getElem?_map]; simp [atI, List.getD, hk, hatl] : wr.cell? ⟨w.heap.size, k, none⟩ = some (.int .i64 (atI at' k))))
    clear hat hout hys hyl hrem hatl hat0 hat1 hout0
    have CELL := Lib.hid (fun (hpos : 0 < n) => gr.rowBatch hpos)
    go_wp2
    obtain ⟨wo, rfl⟩ : ∃ wo : World, wo = wr := ⟨_, rfl⟩
    go_loopw [5, 13] (fun q i wi => ∃ k : Nat, k ≤ n ∧ i = .int .i64 k ∧ q = .int .i64 (bestAt (batD xs) at' k) ∧ Below wo.heap.size wo wi) (fun _ i _ => n - (intOf i).toNat)
    case atStart => exact ⟨0, Nat.zero_le _, rfl, rfl, Below.refl _ _⟩
    case round =>
      obtain ⟨k, hk, rfl, rfl, hbi⟩ := hrel
      obtain ⟨wi, rfl⟩ : ∃ wi : World, wi = wr := ⟨_, rfl⟩
      by_cases hlt : k < n
      · obtain ⟨b1, off1, rfl, hbl1, hc1⟩ := CELL.out (by omega)
        have hkx : k < xs.length := by rw [hL.out]; exact hlt
        have cb : ∀ o, wi.cell? ⟨b1, o, none⟩ = w.cell? ⟨b1, o, none⟩ := fun o => (hbi.cell (p := ⟨b1, o, none⟩) (Nat.lt_of_lt_of_le hbl1 hb.size)).trans (hb.cell (p := ⟨b1, o, none⟩) hbl1)
        have k0 := hc1 k hlt
        rw [← cb] at k0
        have HC1 := Lib.hid hc1
        have HCB := Lib.hid cb
        clear hc1 cb
        have hszi := hbi.size
        have hBo : w.heap.size < wo.heap.size := by omega
        have ck : wi.cell? ⟨w.heap.size, k, none⟩ = some (.int .i64 (atI at' k)) := (hbi.cell (p := ⟨w.heap.size, k, none⟩) hBo).trans (ATC.out k hlt)
        have rdk : Rd encRec 3 wi (atBatch xs k).recsA (atBatch xs k).recsN (atBatch xs k).recsC (atBatch xs k).recs := by rw [atBatch_eq xs k hkx]; exact (gi _ (List.getElem_mem hkx)).below (hb.trans (hbi.mono hb.size)) (Nat.le_refl _)
        have hrow := batD_row xs k hkx
        have hlenk := rdk.len
        have HRN : Hid ((rowD (batD xs) k).length = (atBatch xs k).recsN) := Lib.hid (by rw [hrow]; exact hlenk)
        have HRW := Lib.hid hrow
        have hak0 := HAT0.out k
        have hi1 : (k : Int) < (n : Int) := by omega
        have hBi : w.heap.size < wi.heap.size := by omega
        have hb1i : b1 < wi.heap.size := by have := hb.size; omega
        have BBi := hb.trans (hbi.mono hb.size)
        have hbx := fun o => hbi.alloc hbi.size o
        have htopk := preBatch_top xs k hkx
        rw [hL.out] at htopk
        have hrecn : (atBatch xs k).recsN ≤ 1048576 := by unfold bulkBatch at htopk; omega
        clear hrow hlenk htopk
        by_cases hlive : atI at' k < ((atBatch xs k).recsN : Int)
        · rcases bestAt_rng (batD xs) at' k with hbst | ⟨bb, hbst, hbk, hblive⟩
          · have HB1 := Lib.hid (bestAt_first (by rw [HRN.out]; exact hlive) hbst)
            rw [hbst]
            clear hbst
            generalize atBatch xs k = x at *
            generalize atI at' k = ak at *
            have hd1 : decide (ak < (x.recsN : Int)) = true := by simpa using hlive
            go_wp2
            go_quiet (fail)
            clear hd1
            go_wp2
            go_roundw
            case rel => exact ⟨k + 1, by omega, by go_num, by rw [HB1.out], below_drewN (hbx _) _⟩
            case measure => simp [intOf]; omega
          · have hbn : bb < n := by omega
            have hbx2 : bb < xs.length := by rw [hL.out]; exact hbn
            have kb := HC1.out bb hbn
            rw [← HCB.out] at kb
            clear HC1 HCB
            have cbb : wi.cell? ⟨w.heap.size, bb, none⟩ = some (.int .i64 (atI at' bb)) := (hbi.cell (p := ⟨w.heap.size, bb, none⟩) hBo).trans (ATC.out bb hbn)
            have rdb : Rd encRec 3 wi (atBatch xs bb).recsA (atBatch xs bb).recsN (atBatch xs bb).recsC (atBatch xs bb).recs := by rw [atBatch_eq xs bb hbx2]; exact (gi _ (List.getElem_mem hbx2)).below (hb.trans (hbi.mono hb.size)) (Nat.le_refl _)
            have hrowb := batD_row xs bb hbx2
            have hlenb := rdb.len
            rw [hrowb, hlenb] at hblive
            have hab0 := HAT0.out bb
            have HRB := Lib.hid hrowb
            have HL1 := Lib.hid (fun hl => bestAt_less (D := batD xs) (at' := at') (k := k) (b := bb) (by rw [HRN.out]; exact hlive) hbst hl)
            have HL2 := Lib.hid (fun hl => bestAt_not (D := batD xs) (at' := at') (k := k) (b := bb) hbst hl)
            obtain ⟨b2, off2, ha2, hbl2, hr2⟩ := rdk.rowRec (by omega)
            obtain ⟨b3, off3, ha3, hbl3, hr3⟩ := rdb.rowRec (by omega)
            obtain ⟨AK, hAK⟩ := Int.eq_ofNat_of_zero_le hak0
            obtain ⟨AB, hAB⟩ := Int.eq_ofNat_of_zero_le hab0
            obtain ⟨m0, m1, m2⟩ := hr2 AK (by omega)
            obtain ⟨p0, p1, p2⟩ := hr3 AB (by omega)
            have HRK : Hid (recD (batD xs) at' k = atRec (atBatch xs k).recs AK) := Lib.hid (by unfold recD; rw [HRW.out, hAK]; rfl)
            have HRBB : Hid (recD (batD xs) at' bb = atRec (atBatch xs bb).recs AB) := Lib.hid (by unfold recD; rw [HRB.out, hAB]; rfl)
            rw [HRK.out, HRBB.out] at HL1 HL2
            rw [hbst]
            rw [hAK] at ck hlive
            rw [hAB] at cbb hblive
            clear hbst hrowb hlenb hr2 hr3 hak0 hab0 hAK hAB HRK HRBB rdk rdb
            generalize atBatch xs k = x at *
            generalize atBatch xs bb = z at *
            obtain ⟨xA, xN, xC, xL⟩ := x
            obtain ⟨zA, zN, zC, zL⟩ := z
            simp only at *
            subst ha2
            subst ha3
            generalize atRec xL AK = u at *
            generalize atRec zL AB = v at *
            have hal := (Below.refl wi.heap.size wi).alloc (Nat.le_refl _) (.cells #[.slice (some ⟨b2, off2, none⟩) xN xC] 74)
            have s1 := cell_later hal ck
            have s2 := cell_later hal cbb
            have s3 : (wi.alloc (.cells #[.slice (some ⟨b2, off2, none⟩) xN xC] 74)).cell? ⟨wi.heap.size, 0, none⟩ = some (.slice (some ⟨b2, off2, none⟩) xN xC) := by simp [go_sem]
            have s4 := cell_later hal kb
            have s5 := cell_later hal m0
            have s6 := cell_later hal m1
            have s7 := cell_later hal m2
            have s8 := cell_later hal p0
            have s9 := cell_later hal p1
            have s10 := cell_later hal p2
            have hd1 : decide ((AK : Int) < (xN : Int)) = true := by simpa using hlive
            have hd2 : decide ((bb : Int) < 0) = false := by simp
            have hd3 : (bb : Int) < (n : Int) := by omega
            have hd4 : (0 : Int) ≤ (AK : Int) := by omega
            have hd5 : (0 : Int) ≤ (AB : Int) := by omega
            have hd6 : AK < xN := by omega
            have hd7 : decide (AK < xN) = true := by simpa using hd6
            have hba := (hbi.alloc hbi.size (.cells #[.slice (some ⟨b2, off2, none⟩) xN xC] 74))
            clear m0 m1 m2 p0 p1 p2 kb cbb hal hbx BBi
            go_wp2_with fail
            obtain ⟨wx, hwx⟩ : ∃ wx : World, wx = wi.alloc (.cells #[.slice (some ⟨b2, off2, none⟩) xN xC] 74) := ⟨_, rfl⟩
            rw [← hwx] at s1 s2 s3 s4 s5 s6 s7 s8 s9 s10 hba ⊢
            have HWX := Lib.hid hwx
            clear hwx ck
            go_region_held3 (fun w' => w'.cell? ⟨w.heap.size, k, none⟩ = some (.int .i64 AK) ∧ w'.cell? ⟨w.heap.size, bb, none⟩ = some (.int .i64 AB) ∧ w'.cell? ⟨wi.heap.size, 0, none⟩ = some (.slice (some ⟨b2, off2, none⟩) xN xC) ∧ w'.cell? ⟨b1, off1 + bb, none⟩ = some (.slice (some ⟨b3, off3, none⟩) zN zC) ∧ w'.cell? ⟨b2, off2 + AK * 3, none⟩ = some (.int .i64 u.a) ∧ w'.cell? ⟨b2, off2 + AK * 3 + 1, none⟩ = some (.int .i64 u.b) ∧ w'.cell? ⟨b2, off2 + AK * 3 + 2, none⟩ = some (.int .i64 u.c) ∧ w'.cell? ⟨b3, off3 + AB * 3, none⟩ = some (.int .i64 v.a) ∧ w'.cell? ⟨b3, off3 + AB * 3 + 1, none⟩ = some (.int .i64 v.b) ∧ w'.cell? ⟨b3, off3 + AB * 3 + 2, none⟩ = some (.int .i64 v.c) ∧ Below wx.heap.size wx w') (first | exact keepd10 (by assumption) | exact keep10 (by assumption) (Nat.le_refl _) (by assumption) | exact ⟨s1, s2, s3, s4, s5, s6, s7, s8, s9, s10, (Below.refl _ _).drew⟩) (first | (go_at_call 34; refine (lessR_impl u v _).mono ?_; rintro e wa ⟨rfl, hba2⟩))
            have hb2 : Below wx.heap.size wx _ := tail10 (by assumption)
            have hb3 := hba.trans (hb2.mono hba.size)
            clear hd1 hd2 hd3 hd4 hd5 hd6 hd7
            cases hq : lessR u v with
            | true =>
              have HX := Lib.hid (HL1.out hq)
              have HQ := Lib.hid hq
              try rw [HQ.out]
              clear hq HL1 HL2
              go_wp2
              go_roundw
              case rel => exact ⟨k + 1, by omega, by go_num, by rw [HX.out], hb3⟩
              case measure => simp [intOf]; omega
            | false =>
              have HX := Lib.hid (HL2.out hq)
              have HQ := Lib.hid hq
              try rw [HQ.out]
              clear hq HL1 HL2
              go_wp2
              go_roundw
              case rel => exact ⟨k + 1, by omega, by go_num, by rw [HX.out], hb3⟩
              case measure => simp [intOf]; omega
        · have HB1 := Lib.hid (bestAt_dead (D := batD xs) (at' := at') (k := k) (by rw [HRN.out]; omega))
          generalize atBatch xs k = x at *
          generalize atI at' k = ak at *
          have hd1 : decide (ak < (x.recsN : Int)) = false := by simpa using hlive
          clear hlive
          go_wp2
          go_quiet (fail)
          clear hd1
          go_wp2
          go_roundw
          case rel => exact ⟨k + 1, by omega, by go_num, by rw [HB1.out], below_drewN (hbx _) _⟩
          case measure => simp [intOf]; omega
      · obtain rfl : k = n := by omega
        have hszi := hbi.size
        have hBo : w.heap.size < wo.heap.size := by omega
        have hout2 := HOUT.out.below hbi
        have BBi := hb.trans (hbi.mono hb.size)
        rcases bestAt_rng (batD xs) at' k with hbst | ⟨bb, hbst, hbk, hblive⟩
        · have HM := Lib.hid (merge_done (D := batD xs) (out := ys) (by rw [HDN.out]; exact hbst) (by rw [HDN.out]; exact HYS.out))
          rw [hbst]
          clear hbst
          go_wp2
          go_ret
          exact ⟨⟨A, r, C, ys⟩, rfl, HM.out, ⟨OwnS.of hout2.1 HYL.out (show r ≤ _ by omega)⟩, (show r ≤ _ by omega), BBi⟩
        · have hbx2 : bb < xs.length := by rw [hL.out]; exact hbk
          obtain ⟨b1, off1, rfl, hbl1, hc1⟩ := CELL.out (by omega)
          have cb : ∀ o, wi.cell? ⟨b1, o, none⟩ = w.cell? ⟨b1, o, none⟩ := fun o => (hbi.cell (p := ⟨b1, o, none⟩) (Nat.lt_of_lt_of_le hbl1 hb.size)).trans (hb.cell (p := ⟨b1, o, none⟩) hbl1)
          have kb := hc1 bb hbk
          rw [← cb] at kb
          have cbb : wi.cell? ⟨w.heap.size, bb, none⟩ = some (.int .i64 (atI at' bb)) := (hbi.cell (p := ⟨w.heap.size, bb, none⟩) hBo).trans (ATC.out bb hbk)
          have rdb : Rd encRec 3 w (atBatch xs bb).recsA (atBatch xs bb).recsN (atBatch xs bb).recsC (atBatch xs bb).recs := by rw [atBatch_eq xs bb hbx2]; exact gi _ (List.getElem_mem hbx2)
          have hrowb := batD_row xs bb hbx2
          have hlenb := rdb.len
          have hrb := remN_bump (batD xs) at' bb (by rw [HATL.out]; exact hbk) (HAT0.out bb) hblive k hbk
          have HNX := Lib.hid (merge_next (D := batD xs) (at' := at') (out := ys) (b := bb) (by rw [HDN.out]; exact hbk) (by rw [HATL.out, HDN.out]) (HAT0.out bb) hblive (by rw [HDN.out]; exact hbst) (by rw [HDN.out]; exact HYS.out))
          have HBL : Hid ((bump at' bb).length = k) := Lib.hid (by rw [bump_len, HATL.out])
          have HB0 : Hid (∀ q, 0 ≤ atI (bump at' bb) q) := Lib.hid (fun q => by rw [atI_bump at' bb q (by rw [HATL.out]; exact hbk)]; have e1 := HAT0.out bb; have e2 := HAT0.out q; split <;> omega)
          rw [HREM.out] at hrb
          rw [hrowb, hlenb] at hblive
          have hab0 := HAT0.out bb
          have htopb := preBatch_top xs bb hbx2
          rw [hL.out] at htopb
          have hrecb : (atBatch xs bb).recsN ≤ 1048576 := by unfold bulkBatch at htopb; omega
          obtain ⟨b3, off3, ha3, hbl3, hr3⟩ := rdb.rowRec (by omega)
          obtain ⟨AB, hAB⟩ := Int.eq_ofNat_of_zero_le hab0
          obtain ⟨p0', p1', p2'⟩ := hr3 AB (by omega)
          have p0 := cell_lt BBi p0' hbl3
          have p1 := cell_lt BBi p1' hbl3
          have p2 := cell_lt BBi p2' hbl3
          clear p0' p1' p2'
          have HRBB : Hid (recD (batD xs) at' bb = atRec (atBatch xs bb).recs AB) := Lib.hid (by unfold recD; rw [hrowb, hAB]; rfl)
          have HBMP : Hid (((at'.map (Value.int .i64)).set bb (.int .i64 (atI at' bb + 1))) = (bump at' bb).map (.int .i64)) := Lib.hid (by rw [← List.map_set]; rfl)
          rw [HRBB.out] at HNX
          rw [HDN.out] at HNX
          have HRB2 := Lib.hid hrb
          rw [hAB] at cbb hblive HBMP
          rw [hbst]
          have HAT2 : Hid (wi.ownsRow w.heap.size 3 1 (.slice (some ⟨w.heap.size, 0, none⟩) k k) k (at'.map (.int .i64))) := Lib.hid (own_keep HAT.out (fun g hg => by cases hg; exact hbi.block w.heap.size hBo))
          clear hbst hrowb hlenb hr3 hab0 hAB HRBB rdb htopb cb hc1
          generalize atBatch xs bb = z at *
          obtain ⟨zA, zN, zC, zL⟩ := z
          simp only at *
          subst ha3
          generalize atRec zL AB = v at *
          have hd2 : decide ((bb : Int) < 0) = false := by simp
          have hd3 : (bb : Int) < (k : Int) := by omega
          have hd5 : (0 : Int) ≤ (AB : Int) := by omega
          have hABm : (AB : Int) ≤ 1048576 := by omega
          have hrg2 : r + 1 ≤ 1048576 := by omega
          have hsz1 : w1.heap.size ≤ wi.heap.size := by omega
          have hb1w : b1 < w1.heap.size := by have := hbw1.size; omega
          have hb3w : b3 < w1.heap.size := by have := hbw1.size; omega
          go_wp2_with fail
          go_region_held3 (fun w' => w'.cell? ⟨w.heap.size, bb, none⟩ = some (.int .i64 AB) ∧ w'.cell? ⟨b1, off1 + bb, none⟩ = some (.slice (some ⟨b3, off3, none⟩) zN zC) ∧ w'.cell? ⟨b3, off3 + AB * 3, none⟩ = some (.int .i64 v.a) ∧ w'.cell? ⟨b3, off3 + AB * 3 + 1, none⟩ = some (.int .i64 v.b) ∧ w'.cell? ⟨b3, off3 + AB * 3 + 2, none⟩ = some (.int .i64 v.c))
            (first
              | go_keep
              | (go_split_ands; refine ⟨?_, ?_, ?_, ?_, ?_⟩ <;> (refine cell_lt hb9 (by assumption) ?_; omega)))
            ((refine step_app_out (by rfl) _ _ _ (by rfl) w.heap.size w1.heap.size 54 Tryd.underlying50 ji jz0 jz1 jz2 rfl (by decide) A r C (ys.flatMap encRec) (by rfl) ((hout2.alloc _).below ((Below.refl _ _).drew)) ⟨wi.heap.size, 0, none⟩ 1 1 (encRec v) (by rfl) (by rfl) (World.news_of_block (heap_alloc_new wi _)) (one3 v) (by decide) (by unfold maxLen; omega) (by omega) hbw1.size (by simp; omega) ?_; intro A2 C2 w9 ho9 hb9))
          obtain ⟨q1, _, _, _, _⟩ : w9.cell? ⟨w.heap.size, bb, none⟩ = some (.int .i64 AB) ∧ w9.cell? ⟨b1, off1 + bb, none⟩ = some (.slice (some ⟨b3, off3, none⟩) zN zC) ∧ w9.cell? ⟨b3, off3 + AB * 3, none⟩ = some (.int .i64 v.a) ∧ w9.cell? ⟨b3, off3 + AB * 3 + 1, none⟩ = some (.int .i64 v.b) ∧ w9.cell? ⟨b3, off3 + AB * 3 + 2, none⟩ = some (.int .i64 v.c) := by assumption
          have hbA : Below wi.heap.size wi ((wi.alloc (.cells #[.int .i64 v.a, .int .i64 v.b, .int .i64 v.c] 54)).drew) := ((Below.refl _ _).alloc (Nat.le_refl _) _).drew
          have hb10 : Below w1.heap.size wi w9 := (hbA.mono hsz1).trans hb9
          have hat9 := own_keep HAT2.out (fun g hg => by cases hg; exact hb10.block w.heap.size hszB)
          have hsz9 : w1.heap.size ≤ w9.heap.size := Nat.le_trans hsz1 hb10.size
          have hfr9 := hat9.frozenAt bb
          have HST := Lib.hid (hat9.stored bb (.int .i64 ((AB : Int) + 1))).1
          rw [HBMP.out] at HST
          have HOS := Lib.hid (ho9.set (by omega) w.heap.size bb (.int .i64 ((AB : Int) + 1)) hszB hbw1.size)
          have HBS := Lib.hid ((BBi.trans (hb10.mono hbw1.size)).setCell (p := ⟨w.heap.size, bb, none⟩) (by simp) (.int .i64 ((AB : Int) + 1)))
          have HOL : Hid (ys.flatMap encRec ++ encRec v = (ys ++ [v]).flatMap encRec) := Lib.hid (by rw [List.flatMap_append]; simp)
          clear hat9 ho9 hb9 hb10 hbA hout2
          go_wp2
          go_roundg (gk - 1)
          case measure => have := HRB2.out; omega
          case rel => exact ⟨bump at' bb, A2, r + 1, C2, ys ++ [v], rfl, HBL.out, HB0.out, by have := HRB2.out; omega, by have := HRB2.out; omega, by rw [List.length_append, HYL.out]; rfl, HST.out, by rw [← HOL.out]; exact HOS.out, HNX.out, HBS.out, by rw [size_set]; exact hsz9⟩
theorem merge_impl_b (y : Row BatchR) (D : List (List RecR)) (hD : datBatchS y = D) (w : World) (g : rdBatchS w y) (h1 : y.n ≤ 1048576) (h2 : preBatch y.l y.l.length ≤ 1048576) :
    Calls Tryd.prog 29 #[.slice y.a y.n y.c] w fun e w' => RetRecs (mergeF D) w e w' := by
  subst hD
  exact merge_impl_r _ _ _ _ _ g ⟨h1, h2⟩
theorem merge_impl_k (y : Row BatchR) (D : List (List RecR)) (hD : datBatchS y = D) (w : World) (g : rdBatchS w y) (hn : bulkBatchS y ≤ 1048576) :
    Calls Tryd.prog 29 #[.slice y.a y.n y.c] w fun e w' => RetRecs (mergeF D) w e w' := by
  subst hD
  exact merge_impl_r _ _ _ _ _ g (by unfold bulkBatchS at hn; omega)
end Go.Proofs.YthffmjeodoinlaaDoor

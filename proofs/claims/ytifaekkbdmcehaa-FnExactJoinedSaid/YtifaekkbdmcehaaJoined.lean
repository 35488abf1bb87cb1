/- Joined: what it computes. -/
import Derived.Test.YtifaekkbdmcehaaJoinP
import Derived.Test.YtifaekkbdmcehaaShardOkU
import Derived.Test.YtifaekkbdmcehaaKeep
namespace Go.Proofs.Ytifaekkbdmcehaa
open Go.RowKit
theorem infoBoolJ : (Try.prog.info? 4).map (fun i => (i.zero, i.size, i.bytes)) = some (some (.bool false), 1, 1) := by kernel_rfl
theorem infoEdgeJ : (Try.prog.info? 89).map (fun i => (i.zero, i.size, i.bytes)) = some (some (.agg #[.int .i64 0, .int .i64 0, .int .i64 0]), 3, 24) := by kernel_rfl
theorem own_cell3 {w : World} {B : Nat} {e : TypeId} {sz g n cap : Nat} {xs : List Value} (h : w.ownsRow B e sz (.slice (some ⟨g, 0, none⟩) n cap) n xs) {j : Nat} (hj : j < n * sz) : ∃ d, w.cell? ⟨g, j, none⟩ = some d := by
  rw [h.cellAt j hj]
  exact ⟨_, List.getElem?_eq_getElem (by rw [h.1]; exact hj)⟩
theorem jSound {D : List (Int × Int × List SEdgeR)} {k : Nat} (h : jStep D k = true) {j : Nat} (hj : j < (atSh D k).2.2.length) : 0 ≤ (atSEdge (atSh D k).2.2 j).fr ∧ (atSEdge (atSh D k).2.2 j).fr < 150 ∧ 0 ≤ (atSEdge (atSh D k).2.2 j).ix ∧ (atSEdge (atSh D k).2.2 j).ix < 400 := by
  unfold jStep at h
  simp only [Bool.and_eq_true] at h
  have h5 := (shardB_yes h.1).2.2.2.2 j hj
  unfold stepB at h5
  simp only [Bool.and_eq_true] at h5
  have := (sedgeB_yes h5.1).1
  omega
set_option maxRecDepth 100000 in
set_option maxHeartbeats 8000000 in
theorem joined_impl_k (n : Int) (y : Row ShardR) (D : List (Int × Int × List SEdgeR)) (hD : datShardS y = D) (w : World) (g : rdShardS w y) (g0 : In64 n) (hbk : bulkShardS y ≤ 1048576) :
    Calls Try.prog 54 #[.int .i64 n, .slice y.a y.n y.c] w fun e w' => RetGrK (joinedF n D) w e w' := by
  obtain ⟨a, m, cap, xs⟩ := y
  obtain ⟨gr, gi⟩ := g
  simp only at gr gi ⊢
  unfold In64 at g0
  have hmx := gr.max
  have hle := gr.le
  unfold maxLen at hmx
  have hmm : m ≤ 1048576 := by unfold bulkShardS at hbk; simp only at hbk; omega
  have hDL : D.length = m := by rw [← hD]; unfold datShardS; rw [List.length_map]; exact gr.len
  have HDL := Lib.hid hDL
  have HAT : Hid (∀ k, k < m → atSh D k = ((atShard xs k).lo, (atShard xs k).hi, (atShard xs k).edges)) := Lib.hid (fun k hk => by
    have hx : k < xs.length := by rw [gr.len]; exact hk
    rw [← hD, atShard_eq xs k hx]
    unfold atSh datShardS
    simp [List.getD, hx, datShard])
  have HIN : Hid (∀ k, k < m → Rd encSEdge 5 w (atShard xs k).edgesA (atShard xs k).edgesN (atShard xs k).edgesC (atShard xs k).edges) := Lib.hid (fun k hk => by
    have hx : k < xs.length := by rw [gr.len]; exact hk
    rw [atShard_eq xs k hx]
    exact gi _ (List.getElem_mem hx))
  clear hD hDL hbk gi
  have hbW := (Below.refl w.heap.size w).alloc (Nat.le_refl _) (.cells #[.int .i64 0, .slice none 0 0] 36)
  have HB0 := Lib.hid (BoxG.new w 0 none 0 0 36)
  have HN : Hid (∀ L : Int, jLast D m = L → True) := Lib.hid (fun _ _ => trivial)
  by_cases hn : 0 ≤ n ∧ n ≤ 150
  · obtain ⟨hn0, hn1⟩ := hn
    go_enter Try.func54, Try.ntmps54
    go_wp2
    go_loopw [6, 7, 25] (fun l c i wr => ∃ k : Nat, k ≤ m ∧ l = .int .i64 (jLast D k) ∧ c = .int .i64 (jCnt D k : Nat) ∧ i = .int .i64 k ∧ (∀ i, i < k → jStep D i = true) ∧ Below (w.heap.size + 1) (w.alloc (.cells #[.int .i64 0, .slice none 0 0] 36)) wr) (fun _ _ i _ => m - (intOf i).toNat)
    case atStart => exact ⟨0, Nat.zero_le _, rfl, rfl, rfl, (fun i hi => absurd hi (Nat.not_lt_zero i)), Below.refl _ _⟩
    case round =>
      obtain ⟨k, hk, rfl, rfl, rfl, hst, hb⟩ := hrel
      have HST := Lib.hid hst
      have hcb := jCnt_le (D := D) k (by rw [HDL.out]; exact hk) hst
      clear hst
      have BBr := hbW.trans (hb.mono (by simp))
      have HBr := HB0.out.below (hb.mono (by simp))
      by_cases hlt : k < m
      · have hki : (k : Int) < (m : Int) := by omega
        obtain ⟨b1, off1, rfl, hbl1, hc1⟩ := gr.rowShard (by omega)
        obtain ⟨x0, x1, x2⟩ := hc1 k hlt
        have cb : ∀ o, wr.cell? ⟨b1, o, none⟩ = w.cell? ⟨b1, o, none⟩ := fun o => BBr.cell (p := ⟨b1, o, none⟩) hbl1
        rw [← cb] at x0 x1 x2
        have hin := HIN.out k hlt
        have hat := HAT.out k hlt
        have hlen := hin.len
        have hcs := jCnt_succ D k (by rw [HDL.out]; exact hlt)
        have hls := jLast_succ D k
        rw [hat] at hcs hls
        simp only at hcs hls
        rw [hlen] at hcs
        have HCS := Lib.hid hcs
        have HLS := Lib.hid hls
        have hstep : jStep D k = (shardB (atShard xs k).lo (atShard xs k).hi (atShard xs k).edges && decide ((atShard xs k).lo = jLast D k)) := by unfold jStep; rw [hat]
        have HSTEP := Lib.hid hstep
        have hba := (Below.refl wr.heap.size wr).alloc (Nat.le_refl _) (.cells #[.int .i64 (atShard xs k).lo, .int .i64 (atShard xs k).hi, .slice (atShard xs k).edgesA (atShard xs k).edgesN (atShard xs k).edgesC] 47)
        have BBa := BBr.trans (hba.mono BBr.size)
        have HIA := Lib.hid (hin.below BBa (Nat.le_refl _))
        have hNle := hin.le
        have hNmx := hin.max
        unfold maxLen at hNmx
        clear hc1 cb hat hcs hls hstep hlen hin
        generalize hsk : atShard xs k = s at *
        have HSK := Lib.hid hsk
        clear hsk
        obtain ⟨lo, hi, A, N, C, es⟩ := s
        simp only at x0 x1 x2 HCS HLS HSTEP HIA BBa hba hNle hNmx
        generalize hL : jLast D k = L at *
        generalize hC : jCnt D k = CN at *
        have HLL := Lib.hid hL
        have HCN := Lib.hid hC
        clear hL hC
        cases hsb : shardB lo hi es with
        | false =>
          have HSB := Lib.hid hsb
          have HF := Lib.hid (joinedF_head (jAll_no (k := k) (by rw [HDL.out]; exact hlt) (by rw [HSTEP.out, hsb]; rfl) n))
          clear hsb
          go_wp2_with fail
          refine (shardOk_impl lo hi A N C es _ HIA.out).mono ?_
          rintro e w1 ⟨rfl, hb1⟩
          rw [HSB.out]
          have HB1 := HBr.below (hba.trans (hb1.mono hba.size))
          have BB1 := BBa.trans (hb1.mono BBa.size)
          obtain ⟨r0, r1, r2, r3⟩ := HB1
          have hz1 : w.heap.size < w1.heap.size := World.block_lt_of_cell? _ _ r0
          go_wp2
          refine bodyPost_ret (v := .tuple #[.agg #[.int .i64 0, .slice none 0 0], .bool false]) (by simp [results, Try.results54, go_sem, r0, r1]) rfl ?_
          rw [HF.out]
          exact RetGrK.zero (BB1.trans ((put2_win w1 w.heap.size _ _).below (Nat.le_refl _) BB1.size))
        | true =>
          have HSB := Lib.hid hsb
          have hNb : N ≤ 400 := by have := (shardB_yes hsb).2.2.2.1; rw [HIA.out.len] at this; exact this
          by_cases hlo : lo = L
          · have HOK : Hid (jStep D k = true) := Lib.hid (by rw [HSTEP.out, hsb, hlo]; simp)
            have hloB : (lo != L) = false := by simp [hlo]
            clear hsb hlo
            go_wp2_with fail
            refine (shardOk_impl lo hi A N C es _ HIA.out).mono ?_
            rintro e w1 ⟨rfl, hb1⟩
            rw [HSB.out]
            have BB1 := BBa.trans (hb1.mono BBa.size)
            have hbn : Below (w.heap.size + 1) (w.alloc (.cells #[.int .i64 0, .slice none 0 0] 36)) w1 := (hb.trans (hba.mono (by have := hb.size; simp at this; omega))).trans (hb1.mono (by have := hb.size; simp at this; simp; omega))
            obtain ⟨hc, hf⟩ := bcell hb1
            have t0 : w1.cell? ⟨wr.heap.size, 0, none⟩ = some (.int .i64 lo) := by rw [hc _ _ (by simp)]; simp [go_sem]
            have t1 : w1.cell? ⟨wr.heap.size, 1, none⟩ = some (.int .i64 hi) := by rw [hc _ _ (by simp)]; simp [go_sem]
            have t2 : w1.cell? ⟨wr.heap.size, 2, none⟩ = some (.slice A N C) := by rw [hc _ _ (by simp)]; simp [go_sem]
            clear hc hf
            go_wp2
            go_roundw
            case rel => exact ⟨k + 1, by omega, by rw [HLS.out], by rw [HCS.out] <;> go_num, by go_num, (fun i hi9 => by
              by_cases e : i = k
              · rw [e]; exact HOK.out
              · exact HST.out i (by omega)), hbn⟩
            case measure => simp [intOf]; omega
          · have HF := Lib.hid (joinedF_head (jAll_no (k := k) (by rw [HDL.out]; exact hlt) (by rw [HSTEP.out, decide_eq_false hlo, Bool.and_false]) n))
            have hloB : (lo != L) = true := by simp [hlo]
            clear hsb hlo
            go_wp2_with fail
            refine (shardOk_impl lo hi A N C es _ HIA.out).mono ?_
            rintro e w1 ⟨rfl, hb1⟩
            rw [HSB.out]
            have HB1 := HBr.below (hba.trans (hb1.mono hba.size))
            have BB1 := BBa.trans (hb1.mono BBa.size)
            obtain ⟨r0, r1, r2, r3⟩ := HB1
            have hz1 : w.heap.size < w1.heap.size := World.block_lt_of_cell? _ _ r0
            obtain ⟨hc, hf⟩ := bcell hb1
            have t0 : w1.cell? ⟨wr.heap.size, 0, none⟩ = some (.int .i64 lo) := by rw [hc _ _ (by simp)]; simp [go_sem]
            clear hc hf
            go_wp2
            refine bodyPost_ret (v := .tuple #[.agg #[.int .i64 0, .slice none 0 0], .bool false]) (by simp [results, Try.results54, go_sem, r0, r1]) rfl ?_
            rw [HF.out]
            exact RetGrK.zero (BB1.trans ((put2_win w1 w.heap.size _ _).below (Nat.le_refl _) BB1.size))
      · obtain rfl : k = m := by omega
        by_cases hLn : jLast D k = n
        · by_cases hC : jCnt D k ≤ 400
          · have hh : jHead n D = true := by
              unfold jHead
              rw [HDL.out, hLn, jAll_yes (fun i hi => HST.out i (by rw [← HDL.out]; exact hi)), decide_eq_true hn0, decide_eq_true hn1, decide_eq_true hC]
              simp
            have HH := Lib.hid hh
            have hPl : jPlc n D = plc n (jCnt D k) (jE D 0) (List.replicate (jCnt D k) ⟨0, 0, 0⟩) (List.replicate (jCnt D k) false) := by unfold jPlc; rw [HDL.out]
            have HPL := Lib.hid hPl
            have hLB : (jLast D k != n) = false := by simp [hLn]
            have hcI : ((jCnt D k : Nat) : Int) ≤ 400 := by omega
            obtain ⟨wo, hwo⟩ : ∃ wo : World, wo = wr := ⟨_, rfl⟩
            subst hwo
            clear hh hPl hcb
            generalize hM : jCnt D k = M at *
            generalize hLL : jLast D k = LL at *
            clear hM hLL hLn
            obtain ⟨i0, ji, jz0, jz1, jz2⟩ := info_parts infoEdgeJ
            obtain ⟨k0, ki, kz0, kz1, kz2⟩ := info_parts infoBoolJ
            have hszo : w.heap.size + 1 ≤ wo.heap.size := by have := hb.size; simp at this; omega
            go_wp2_with (at_make; refine wpList_make_full _ rfl _ _ 34 rfl wo.heap.size 89 i0 (.agg #[.int .i64 0, .int .i64 0, .int .i64 0]) 3 Try.underlying34 ji jz0 jz1 _ _ _ _ M rfl rfl rfl rfl ?b1 ?b2 ?b3 ?_)
            case b1 => rw [jz2]; omega
            case b2 => unfold maxLen; omega
            case b3 => simp
            intro wA hownA hgrA
            have hA : wA.ownsRow wo.heap.size 89 3 (.slice (some ⟨wo.heap.size, 0, none⟩) M M) M ((List.replicate M (⟨0, 0, 0⟩ : EdgeR)).flatMap encEdge) := by
              have e := made_flat encEdge (⟨0, 0, 0⟩ : EdgeR) (by decide) M 3 rfl
              rw [← e]
              exact hownA
            have hbA := below_grown hgrA (Nat.le_refl _) (by simp)
            have hGA := (hA.lt _ rfl).2
            have HA := Lib.hid hA
            clear hownA hgrA hA
            have hbG := (Below.refl wA.heap.size wA).alloc (Nat.le_refl _) (.cells #[.int .i64 n, .slice (some ⟨wo.heap.size, 0, none⟩) M M] 36)
            have HGB := Lib.hid (BoxG.new wA n (some ⟨wo.heap.size, 0, none⟩) M M 36)
            go_wp2_with (at_make; refine wpList_make_full _ rfl _ _ 108 rfl (wA.heap.size + 1) 4 k0 (.bool false) 1 Try.underlying108 ki kz0 kz1 _ _ _ _ M rfl rfl rfl rfl ?b4 ?b5 ?b6 ?_)
            case b4 => first | omega | (rw [kz2]; omega)
            case b5 => unfold maxLen; omega
            intro wB hownB hgrB
            have hB : wB.ownsRow (wA.heap.size + 1) 4 1 (.slice (some ⟨wA.heap.size + 1, 0, none⟩) M M) M ((List.replicate M false).map Value.bool) := by
              simpa [toList_madeCells_one, Value.cells] using hownB
            have hbB := below_grown hgrB (Nat.le_refl _) (by simp)
            have HI0 : Hid (JInv n D w wo.heap.size wA.heap.size (wA.heap.size + 1) M (jE D 0) (List.replicate M ⟨0, 0, 0⟩) (List.replicate M false) wB) :=
              Lib.hid ⟨own_base (own_below (own_later HA.out hbG) hbB (Nat.le_refl _)) hszo, own_base hB (by omega), List.length_replicate, List.length_replicate, HGB.out.below hbB, ((HBr.below hbA).below hbG).below hbB, (((BBr.trans (hbA.mono BBr.size)).trans (hbG.mono (by omega))).trans (hbB.mono (by simp; omega))), by omega, hGA, by omega, HPL.out⟩
            clear hownB hgrB hB hbB hbG hbA HGB HA
            have hszB : wA.heap.size + 1 < wB.heap.size := (HI0.out.seen.lt _ rfl).2
            obtain ⟨z0, z1, _, _⟩ := HI0.out.box
            go_wp2
            go_loopw [63] (fun i wv => ∃ (q : Nat) (gs : List EdgeR) (ss : List Bool), q ≤ k ∧ i = .int .i64 q ∧ Hid (JInv n D w wo.heap.size wA.heap.size (wA.heap.size + 1) M (jE D q) gs ss wv)) (fun i _ => k - (intOf i).toNat)
            case atStart => exact ⟨0, _, _, Nat.zero_le _, rfl, HI0⟩
            case round =>
              obtain ⟨q, gs, ss, hq, rfl, HI⟩ := hrel
              obtain ⟨wu, hwu⟩ : ∃ wu : World, wu = wr := ⟨_, rfl⟩
              subst hwu
              have BBu := HI.out.bel
              by_cases hqk : q < k
              · have hqi : (q : Int) < (k : Int) := by omega
                obtain ⟨b1, off1, rfl, hbl1, hc1⟩ := gr.rowShard (by omega)
                obtain ⟨x0, x1, x2⟩ := hc1 q hqk
                have cb : ∀ o, wu.cell? ⟨b1, o, none⟩ = w.cell? ⟨b1, o, none⟩ := fun o => BBu.cell (p := ⟨b1, o, none⟩) hbl1
                rw [← cb] at x0 x1 x2
                have HIQ := Lib.hid (HIN.out q hqk)
                have HATQ := Lib.hid (HAT.out q hqk)
                have HSQ := Lib.hid (HST.out q hqk)
                clear hc1 cb
                generalize atShard xs q = s at *
                obtain ⟨lo, hi, A, N, C, es⟩ := s
                simp only at x0 x1 x2 HIQ HATQ
                have hNlen := HIQ.out.len
                have HNL := Lib.hid hNlen
                have hNle := HIQ.out.le
                have hNmx := HIQ.out.max
                unfold maxLen at hNmx
                clear hNlen
                have hes : (atSh D q).2.2 = es := by rw [HATQ.out]
                have HES := Lib.hid hes
                have hba := (Below.refl wu.heap.size wu).alloc (Nat.le_refl _) (.cells #[.int .i64 lo, .int .i64 hi, .slice A N C] 47)
                have HIA0 : Hid (JInv n D w wo.heap.size wA.heap.size (wA.heap.size + 1) M (jRest D q 0) gs ss (wu.alloc (.cells #[.int .i64 lo, .int .i64 hi, .slice A N C] 47))) := Lib.hid ((HI.out.later hba).rest_eq (jRest_zero D q (by rw [HDL.out]; exact hqk)))
                clear hba hes
                go_wp2
                go_loopw [70] (fun i wv => ∃ (j : Nat) (gs : List EdgeR) (ss : List Bool), j ≤ N ∧ i = .int .i64 j ∧ Hid (JInv n D w wo.heap.size wA.heap.size (wA.heap.size + 1) M (jRest D q j) gs ss wv)) (fun i _ => N - (intOf i).toNat)
                case atStart => exact ⟨0, gs, ss, Nat.zero_le _, rfl, HIA0⟩
                case round =>
                  clear HI HIA0 x0 x1 x2
                  obtain ⟨j, gs, ss, hj, rfl, HI⟩ := hrel
                  obtain ⟨wv, hwv⟩ : ∃ wv : World, wv = wr := ⟨_, rfl⟩
                  subst hwv
                  by_cases hjN : j < N
                  · have hjl : j < (atSh D q).2.2.length := by rw [HES.out, HNL.out]; exact hjN
                    have hsd := jSound HSQ.out hjl
                    have HRC := Lib.hid (jRest_cons D q j hjl)
                    rw [HES.out] at hsd HRC
                    clear hjl
                    obtain ⟨b2, off2, rfl, hbl2, hc2⟩ := HIQ.out.rowSEdge (by omega)
                    obtain ⟨y0, y1, y2, y3, y4⟩ := hc2 j hjN
                    have cb : ∀ o, wv.cell? ⟨b2, o, none⟩ = w.cell? ⟨b2, o, none⟩ := fun o => HI.out.bel.cell (p := ⟨b2, o, none⟩) hbl2
                    rw [← cb] at y0 y1 y2 y3 y4
                    clear hc2 cb
                    generalize atSEdge es j = e at *
                    obtain ⟨fr, to, wt, ixx, vl⟩ := e
                    simp only at y0 y1 y2 y3 y4 hsd
                    obtain ⟨f0, f1, ix0, ix1⟩ := hsd
                    obtain ⟨ix, rfl⟩ := Int.eq_ofNat_of_zero_le ix0
                    have hji : (j : Int) < (N : Int) := by omega
                    by_cases c1 : n ≤ fr
                    · have HBAD : Hid (jBad n M ⟨fr, to, wt, (ix : Int), vl⟩ ss = true) := Lib.hid (by unfold jBad; simp [c1])
                      have HF := Lib.hid (joinedF_plc (n := n) (D := D) (by rw [HI.out.run, HRC.out, plc_bad HBAD.out]))
                      obtain ⟨r0, r1, r2, r3⟩ := HI.out.res
                      have hzr := HI.out.res.lt
                      go_wp2
                      refine bodyPost_ret (v := .tuple #[.agg #[.int .i64 0, .slice none 0 0], .bool false]) (by simp [results, Try.results54, go_sem, hzr, r0, r1]) rfl ?_
                      rw [HF.out]
                      exact RetGrK.zero ((HI.out.bel.trans ((put2_win wv w.heap.size _ _).below (Nat.le_refl _) HI.out.bel.size)).alloc (by simp only [size_set]; exact HI.out.bel.size) _)
                    · have c1' : fr < n := by omega
                      clear c1
                      by_cases c2 : ix < M
                      · have c2i : (ix : Int) < (M : Int) := by omega
                        have hsn : wv.cell? ⟨wA.heap.size + 1, ix, none⟩ = some (.bool (ss.getD ix false)) := by
                          rw [HI.out.seen.cellAt ix (by omega), List.getElem?_map]
                          have : ix < ss.length := by rw [HI.out.sl]; exact c2
                          simp [List.getD, this]
                        have hzS := (HI.out.seen.lt _ rfl).2
                        obtain ⟨bs, hbs⟩ : ∃ bs, bs = ss.getD ix false := ⟨_, rfl⟩
                        rw [← hbs] at hsn
                        cases bs with
                        | true =>
                          have HBAD : Hid (jBad n M ⟨fr, to, wt, (ix : Int), vl⟩ ss = true) := Lib.hid (by unfold jBad; simp only [Int.toNat_natCast]; rw [← hbs]; simp)
                          clear hbs
                          have HF := Lib.hid (joinedF_plc (n := n) (D := D) (by rw [HI.out.run, HRC.out, plc_bad HBAD.out]))
                          obtain ⟨r0, r1, r2, r3⟩ := HI.out.res
                          have hzr := HI.out.res.lt
                          go_wp2
                          refine bodyPost_ret (v := .tuple #[.agg #[.int .i64 0, .slice none 0 0], .bool false]) (by simp [results, Try.results54, go_sem, hzr, r0, r1]) rfl ?_
                          rw [HF.out]
                          exact RetGrK.zero ((HI.out.bel.trans ((put2_win wv w.heap.size _ _).below (Nat.le_refl _) HI.out.bel.size)).alloc (by simp only [size_set]; exact HI.out.bel.size) _)
                        | false =>
                          have hgood : jBad n M ⟨fr, to, wt, (ix : Int), vl⟩ ss = false := by
                            unfold jBad
                            simp only [Int.toNat_natCast]
                            rw [← hbs, decide_eq_false (by omega), decide_eq_false (by omega)]
                            rfl
                          have HNX := Lib.hid ((((HI.out.rest_eq HRC.out).put hgood rfl c2).later ((Below.refl _ _).alloc (Nat.le_refl _) (.cells #[.int .i64 fr, .int .i64 to, .int .i64 wt, .int .i64 (ix : Int), .int .i64 vl] 94))))
                          have hfs := HI.out.seen.frozenAt ix
                          have hf0 := HI.out.own.frozenAt (ix * 3)
                          have hf1 := HI.out.own.frozenAt (ix * 3 + 1)
                          have hf2 := HI.out.own.frozenAt (ix * 3 + 2)
                          have hxl : ix < gs.length := by rw [HI.out.gl]; exact c2
                          obtain ⟨d0, hd0⟩ : ∃ d, wv.cell? ⟨wo.heap.size, ix * 3, none⟩ = some d := own_cell3 HI.out.own (by omega)
                          obtain ⟨d1, hd1⟩ : ∃ d, wv.cell? ⟨wo.heap.size, ix * 3 + 1, none⟩ = some d := own_cell3 HI.out.own (by omega)
                          obtain ⟨d2, hd2⟩ : ∃ d, wv.cell? ⟨wo.heap.size, ix * 3 + 2, none⟩ = some d := own_cell3 HI.out.own (by omega)
                          obtain ⟨z0, z1, _, _⟩ := HI.out.box
                          have hzG := HI.out.box.lt
                          have hzE := (HI.out.own.lt _ rfl).2
                          clear hgood hbs hxl
                          go_wp2
                          go_roundw
                          case rel => exact ⟨j + 1, _, _, by omega, by go_num, HNX⟩
                          case measure => simp [intOf]; omega
                      · have HBAD : Hid (jBad n M ⟨fr, to, wt, (ix : Int), vl⟩ ss = true) := Lib.hid (by unfold jBad; rw [decide_eq_true (show (M : Int) ≤ (ix : Int) by omega)]; simp)
                        have c2i : (M : Int) ≤ (ix : Int) := by omega
                        clear c2
                        have HF := Lib.hid (joinedF_plc (n := n) (D := D) (by rw [HI.out.run, HRC.out, plc_bad HBAD.out]))
                        obtain ⟨r0, r1, r2, r3⟩ := HI.out.res
                        have hzr := HI.out.res.lt
                        go_wp2
                        refine bodyPost_ret (v := .tuple #[.agg #[.int .i64 0, .slice none 0 0], .bool false]) (by simp [results, Try.results54, go_sem, hzr, r0, r1]) rfl ?_
                        rw [HF.out]
                        exact RetGrK.zero ((HI.out.bel.trans ((put2_win wv w.heap.size _ _).below (Nat.le_refl _) HI.out.bel.size)).alloc (by simp only [size_set]; exact HI.out.bel.size) _)
                  · obtain rfl : j = N := by omega
                    have HNX := Lib.hid (HI.out.rest_eq (jRest_end D q j (by rw [HES.out, HNL.out]; exact Nat.le_refl _)))
                    go_wp2
                    go_roundw
                    case rel => exact ⟨q + 1, gs, ss, by omega, by go_num, HNX⟩
                    case measure => simp [intOf]; omega
              · obtain rfl : q = k := by omega
                have hE0 : jE D q = [] := by rw [← HDL.out]; exact jE_end D
                have HFI := Lib.hid ((HI.out.rest_eq hE0).fin HH.out hC)
                clear hE0
                obtain ⟨r0, r1, r2, r3⟩ := HI.out.res
                obtain ⟨z0, z1, _, _⟩ := HI.out.box
                have hzr := HI.out.res.lt
                go_wp2
                refine bodyPost_ret (v := .tuple #[.agg #[.int .i64 n, .slice (some ⟨wo.heap.size, 0, none⟩) M M], .bool true]) (by simp [results, Try.results54, go_sem, r0, r1]) rfl ?_
                exact HFI.out
          · have HF := Lib.hid (joinedF_head (n := n) (D := D) (by unfold jHead; rw [HDL.out, decide_eq_false hC]; simp))
            have hLB : (jLast D k != n) = false := by simp [hLn]
            have hcI : 400 < ((jCnt D k : Nat) : Int) := by omega
            clear hC hLn
            obtain ⟨r0, r1, r2, r3⟩ := HBr
            have hz1 : w.heap.size < wr.heap.size := World.block_lt_of_cell? _ _ r0
            go_wp2
            refine bodyPost_ret (v := .tuple #[.agg #[.int .i64 0, .slice none 0 0], .bool false]) (by simp [results, Try.results54, go_sem, r0, r1]) rfl ?_
            rw [HF.out]
            exact RetGrK.zero (BBr.trans ((put2_win wr w.heap.size _ _).below (Nat.le_refl _) BBr.size))
        · have HF := Lib.hid (joinedF_head (n := n) (D := D) (by unfold jHead; rw [HDL.out, decide_eq_false hLn]; simp))
          have hLB : (jLast D k != n) = true := by simp [hLn]
          clear hLn
          obtain ⟨r0, r1, r2, r3⟩ := HBr
          have hz1 : w.heap.size < wr.heap.size := World.block_lt_of_cell? _ _ r0
          go_wp2
          refine bodyPost_ret (v := .tuple #[.agg #[.int .i64 0, .slice none 0 0], .bool false]) (by simp [results, Try.results54, go_sem, r0, r1]) rfl ?_
          rw [HF.out]
          exact RetGrK.zero (BBr.trans ((put2_win wr w.heap.size _ _).below (Nat.le_refl _) BBr.size))
  · have HF : Hid (joinedF n D = ((0, []), false)) := Lib.hid (joinedF_head (by unfold jHead; by_cases h1 : 0 ≤ n <;> by_cases h2 : n ≤ 150 <;> simp [h1, h2] <;> omega))
    by_cases h0 : 0 ≤ n
    · have h1 : 150 < n := by omega
      clear hn
      go_enter Try.func54, Try.ntmps54
      go_wp2
      refine bodyPost_ret (v := .tuple #[.agg #[.int .i64 0, .slice none 0 0], .bool false]) (by simp [results, Try.results54, go_sem]) rfl ?_
      rw [HF.out]
      exact RetGrK.zero hbW
    · have h1 : n < 0 := by omega
      clear hn
      go_enter Try.func54, Try.ntmps54
      go_wp2
      refine bodyPost_ret (v := .tuple #[.agg #[.int .i64 0, .slice none 0 0], .bool false]) (by simp [results, Try.results54, go_sem]) rfl ?_
      rw [HF.out]
      exact RetGrK.zero hbW
set_option maxRecDepth 100000 in
set_option maxHeartbeats 8000000 in
theorem joined_spec_k (n : Int) (y : Row ShardR) (D : List (Int × Int × List SEdgeR)) (hD : datShardS y = D) (w : World) (g : rdShardS w y) (g0 : In64 n) (hbk : bulkShardS y ≤ 1048576) :
    Calls Try.prog 52 #[.int .i64 n, .slice y.a y.n y.c] w fun e w' => RetGrK (joinedF n D) w e w' := by
  obtain ⟨a, m, cap, xs⟩ := y
  obtain ⟨gr, gi⟩ := g
  simp only at gr gi ⊢
  unfold In64 at g0
  have hmx := gr.max
  have hle := gr.le
  unfold maxLen at hmx
  have hmm : m ≤ 1048576 := by unfold bulkShardS at hbk; simp only at hbk; omega
  have hDL : D.length = m := by rw [← hD]; unfold datShardS; rw [List.length_map]; exact gr.len
  have HDL := Lib.hid hDL
  have HAT : Hid (∀ k, k < m → atSh D k = ((atShard xs k).lo, (atShard xs k).hi, (atShard xs k).edges)) := Lib.hid (fun k hk => by
    have hx : k < xs.length := by rw [gr.len]; exact hk
    rw [← hD, atShard_eq xs k hx]
    unfold atSh datShardS
    simp [List.getD, hx, datShard])
  have HIN : Hid (∀ k, k < m → Rd encSEdge 5 w (atShard xs k).edgesA (atShard xs k).edgesN (atShard xs k).edgesC (atShard xs k).edges) := Lib.hid (fun k hk => by
    have hx : k < xs.length := by rw [gr.len]; exact hk
    rw [atShard_eq xs k hx]
    exact gi _ (List.getElem_mem hx))
  clear hD hDL hbk gi
  have hbW := (Below.refl w.heap.size w).alloc (Nat.le_refl _) (.cells #[.int .i64 0, .slice none 0 0] 36)
  have HB0 := Lib.hid (BoxG.new w 0 none 0 0 36)
  go_enter Try.func52, Try.ntmps52
  go_wp2
  go_loopw [6, 7, 18] (fun c l i wr => ∃ k : Nat, k ≤ m ∧ l = .int .i64 (jLast D k) ∧ c = .int .i64 (jCnt D k : Nat) ∧ i = .int .i64 k ∧ (∀ i, i < k → jStep D i = true) ∧ Below (w.heap.size + 1) (w.alloc (.cells #[.int .i64 0, .slice none 0 0] 36)) wr) (fun _ _ i _ => m - (intOf i).toNat)
  case atStart => exact ⟨0, Nat.zero_le _, rfl, rfl, rfl, (fun i hi => absurd hi (Nat.not_lt_zero i)), Below.refl _ _⟩
  case round =>
    obtain ⟨k, hk, rfl, rfl, rfl, hst, hb⟩ := hrel
    have HST := Lib.hid hst
    have hcb := jCnt_le (D := D) k (by rw [HDL.out]; exact hk) hst
    clear hst
    have BBr := hbW.trans (hb.mono (by simp))
    have HBr := HB0.out.below (hb.mono (by simp))
    by_cases hlt : k < m
    · have hki : (k : Int) < (m : Int) := by omega
      obtain ⟨b1, off1, rfl, hbl1, hc1⟩ := gr.rowShard (by omega)
      obtain ⟨x0, x1, x2⟩ := hc1 k hlt
      have cb : ∀ o, wr.cell? ⟨b1, o, none⟩ = w.cell? ⟨b1, o, none⟩ := fun o => BBr.cell (p := ⟨b1, o, none⟩) hbl1
      rw [← cb] at x0 x1 x2
      have hin := HIN.out k hlt
      have hat := HAT.out k hlt
      have hlen := hin.len
      have hcs := jCnt_succ D k (by rw [HDL.out]; exact hlt)
      have hls := jLast_succ D k
      rw [hat] at hcs hls
      simp only at hcs hls
      rw [hlen] at hcs
      have HCS := Lib.hid hcs
      have HLS := Lib.hid hls
      have hstep : jStep D k = (shardB (atShard xs k).lo (atShard xs k).hi (atShard xs k).edges && decide ((atShard xs k).lo = jLast D k)) := by unfold jStep; rw [hat]
      have HSTEP := Lib.hid hstep
      have hba := (Below.refl wr.heap.size wr).alloc (Nat.le_refl _) (.cells #[.int .i64 (atShard xs k).lo, .int .i64 (atShard xs k).hi, .slice (atShard xs k).edgesA (atShard xs k).edgesN (atShard xs k).edgesC] 47)
      have BBa := BBr.trans (hba.mono BBr.size)
      have HIA := Lib.hid (hin.below BBa (Nat.le_refl _))
      have hNle := hin.le
      have hNmx := hin.max
      unfold maxLen at hNmx
      clear hc1 cb hat hcs hls hstep hlen hin
      generalize hsk : atShard xs k = s at *
      have HSK := Lib.hid hsk
      clear hsk
      obtain ⟨lo, hi, A, N, C, es⟩ := s
      simp only at x0 x1 x2 HCS HLS HSTEP HIA BBa hba hNle hNmx
      generalize hL : jLast D k = L at *
      generalize hC : jCnt D k = CN at *
      have HLL := Lib.hid hL
      have HCN := Lib.hid hC
      clear hL hC
      cases hsb : shardB lo hi es with
      | false =>
        have HSB := Lib.hid hsb
        have HF := Lib.hid (joinedF_head (jAll_no (k := k) (by rw [HDL.out]; exact hlt) (by rw [HSTEP.out, hsb]; rfl) n))
        clear hsb
        go_wp2_with fail
        refine (shardOk_spec lo hi A N C es _ HIA.out).mono ?_
        rintro e w1 ⟨rfl, hb1⟩
        rw [HSB.out]
        have HB1 := HBr.below (hba.trans (hb1.mono hba.size))
        have BB1 := BBa.trans (hb1.mono BBa.size)
        obtain ⟨r0, r1, r2, r3⟩ := HB1
        have hz1 : w.heap.size < w1.heap.size := World.block_lt_of_cell? _ _ r0
        go_wp2
        refine bodyPost_ret (v := .tuple #[.agg #[.int .i64 0, .slice none 0 0], .bool false]) (by simp [results, Try.results52, go_sem, r0, r1]) rfl ?_
        rw [HF.out]
        exact RetGrK.zero (BB1.trans ((put2_win w1 w.heap.size _ _).below (Nat.le_refl _) BB1.size))
      | true =>
        have HSB := Lib.hid hsb
        have hNb : N ≤ 400 := by have := (shardB_yes hsb).2.2.2.1; rw [HIA.out.len] at this; exact this
        by_cases hlo : lo = L
        · have HOK : Hid (jStep D k = true) := Lib.hid (by rw [HSTEP.out, hsb, hlo]; simp)
          have hloB : (lo != L) = false := by simp [hlo]
          clear hsb hlo
          go_wp2_with fail
          refine (shardOk_spec lo hi A N C es _ HIA.out).mono ?_
          rintro e w1 ⟨rfl, hb1⟩
          rw [HSB.out]
          have BB1 := BBa.trans (hb1.mono BBa.size)
          have hbn : Below (w.heap.size + 1) (w.alloc (.cells #[.int .i64 0, .slice none 0 0] 36)) w1 := (hb.trans (hba.mono (by have := hb.size; simp at this; omega))).trans (hb1.mono (by have := hb.size; simp at this; simp; omega))
          obtain ⟨hc, hf⟩ := bcell hb1
          have t0 : w1.cell? ⟨wr.heap.size, 0, none⟩ = some (.int .i64 lo) := by rw [hc _ _ (by simp)]; simp [go_sem]
          have t1 : w1.cell? ⟨wr.heap.size, 1, none⟩ = some (.int .i64 hi) := by rw [hc _ _ (by simp)]; simp [go_sem]
          have t2 : w1.cell? ⟨wr.heap.size, 2, none⟩ = some (.slice A N C) := by rw [hc _ _ (by simp)]; simp [go_sem]
          clear hc hf
          go_wp2
          go_roundw
          case rel => exact ⟨k + 1, by omega, by rw [HLS.out], by rw [HCS.out] <;> go_num, by go_num, (fun i hi9 => by
            by_cases e : i = k
            · rw [e]; exact HOK.out
            · exact HST.out i (by omega)), hbn⟩
          case measure => simp [intOf]; omega
        · have HF := Lib.hid (joinedF_head (jAll_no (k := k) (by rw [HDL.out]; exact hlt) (by rw [HSTEP.out, decide_eq_false hlo, Bool.and_false]) n))
          have hloB : (lo != L) = true := by simp [hlo]
          clear hsb hlo
          go_wp2_with fail
          refine (shardOk_spec lo hi A N C es _ HIA.out).mono ?_
          rintro e w1 ⟨rfl, hb1⟩
          rw [HSB.out]
          have HB1 := HBr.below (hba.trans (hb1.mono hba.size))
          have BB1 := BBa.trans (hb1.mono BBa.size)
          obtain ⟨r0, r1, r2, r3⟩ := HB1
          have hz1 : w.heap.size < w1.heap.size := World.block_lt_of_cell? _ _ r0
          obtain ⟨hc, hf⟩ := bcell hb1
          have t0 : w1.cell? ⟨wr.heap.size, 0, none⟩ = some (.int .i64 lo) := by rw [hc _ _ (by simp)]; simp [go_sem]
          clear hc hf
          go_wp2
          refine bodyPost_ret (v := .tuple #[.agg #[.int .i64 0, .slice none 0 0], .bool false]) (by simp [results, Try.results52, go_sem, r0, r1]) rfl ?_
          rw [HF.out]
          exact RetGrK.zero (BB1.trans ((put2_win w1 w.heap.size _ _).below (Nat.le_refl _) BB1.size))
    · obtain rfl : k = m := by omega
      by_cases hn : 0 ≤ n ∧ n ≤ 150
      · obtain ⟨hn0, hn1⟩ := hn
        by_cases hLn : jLast D k = n
        · by_cases hC : jCnt D k ≤ 400
          · have hh : jHead n D = true := by
              unfold jHead
              rw [HDL.out, hLn, jAll_yes (fun i hi => HST.out i (by rw [← HDL.out]; exact hi)), decide_eq_true hn0, decide_eq_true hn1, decide_eq_true hC]
              simp
            have HH := Lib.hid hh
            have hPl : jPlc n D = plc n (jCnt D k) (jE D 0) (List.replicate (jCnt D k) ⟨0, 0, 0⟩) (List.replicate (jCnt D k) false) := by unfold jPlc; rw [HDL.out]
            have HPL := Lib.hid hPl
            have hLB : (jLast D k != n) = false := by simp [hLn]
            have hcI : ((jCnt D k : Nat) : Int) ≤ 400 := by omega
            obtain ⟨wo, hwo⟩ : ∃ wo : World, wo = wr := ⟨_, rfl⟩
            subst hwo
            clear hh hPl hcb
            generalize hM : jCnt D k = M at *
            generalize hLL : jLast D k = LL at *
            clear hM hLL hLn
            obtain ⟨i0, ji, jz0, jz1, jz2⟩ := info_parts infoEdgeJ
            obtain ⟨k0, ki, kz0, kz1, kz2⟩ := info_parts infoBoolJ
            have hszo : w.heap.size + 1 ≤ wo.heap.size := by have := hb.size; simp at this; omega
            go_wp2_with (at_make; refine wpList_make_full _ rfl _ _ 34 rfl wo.heap.size 89 i0 (.agg #[.int .i64 0, .int .i64 0, .int .i64 0]) 3 Try.underlying34 ji jz0 jz1 _ _ _ _ M rfl rfl rfl rfl ?b1 ?b2 ?b3 ?_)
            case b1 => rw [jz2]; omega
            case b2 => unfold maxLen; omega
            case b3 => simp
            intro wA hownA hgrA
            have hA : wA.ownsRow wo.heap.size 89 3 (.slice (some ⟨wo.heap.size, 0, none⟩) M M) M ((List.replicate M (⟨0, 0, 0⟩ : EdgeR)).flatMap encEdge) := by
              have e := made_flat encEdge (⟨0, 0, 0⟩ : EdgeR) (by decide) M 3 rfl
              rw [← e]
              exact hownA
            have hbA := below_grown hgrA (Nat.le_refl _) (by simp)
            have hGA := (hA.lt _ rfl).2
            have HA := Lib.hid hA
            clear hownA hgrA hA
            have hbG := (Below.refl wA.heap.size wA).alloc (Nat.le_refl _) (.cells #[.int .i64 n, .slice (some ⟨wo.heap.size, 0, none⟩) M M] 36)
            have HGB := Lib.hid (BoxG.new wA n (some ⟨wo.heap.size, 0, none⟩) M M 36)
            go_wp2_with (at_make; refine wpList_make_full _ rfl _ _ 108 rfl (wA.heap.size + 1) 4 k0 (.bool false) 1 Try.underlying108 ki kz0 kz1 _ _ _ _ M rfl rfl rfl rfl ?b4 ?b5 ?b6 ?_)
            case b4 => first | omega | (rw [kz2]; omega)
            case b5 => unfold maxLen; omega
            intro wB hownB hgrB
            have hB : wB.ownsRow (wA.heap.size + 1) 4 1 (.slice (some ⟨wA.heap.size + 1, 0, none⟩) M M) M ((List.replicate M false).map Value.bool) := by
              simpa [toList_madeCells_one, Value.cells] using hownB
            have hbB := below_grown hgrB (Nat.le_refl _) (by simp)
            have HI0 : Hid (JInv n D w wo.heap.size wA.heap.size (wA.heap.size + 1) M (jE D 0) (List.replicate M ⟨0, 0, 0⟩) (List.replicate M false) wB) :=
              Lib.hid ⟨own_base (own_below (own_later HA.out hbG) hbB (Nat.le_refl _)) hszo, own_base hB (by omega), List.length_replicate, List.length_replicate, HGB.out.below hbB, ((HBr.below hbA).below hbG).below hbB, (((BBr.trans (hbA.mono BBr.size)).trans (hbG.mono (by omega))).trans (hbB.mono (by simp; omega))), by omega, hGA, by omega, HPL.out⟩
            clear hownB hgrB hB hbB hbG hbA HGB HA
            have hszB : wA.heap.size + 1 < wB.heap.size := (HI0.out.seen.lt _ rfl).2
            obtain ⟨z0, z1, _, _⟩ := HI0.out.box
            go_wp2
            go_loopw [64] (fun i wv => ∃ (q : Nat) (gs : List EdgeR) (ss : List Bool), q ≤ k ∧ i = .int .i64 q ∧ Hid (JInv n D w wo.heap.size wA.heap.size (wA.heap.size + 1) M (jE D q) gs ss wv)) (fun i _ => k - (intOf i).toNat)
            case atStart => exact ⟨0, _, _, Nat.zero_le _, rfl, HI0⟩
            case round =>
              obtain ⟨q, gs, ss, hq, rfl, HI⟩ := hrel
              obtain ⟨wu, hwu⟩ : ∃ wu : World, wu = wr := ⟨_, rfl⟩
              subst hwu
              have BBu := HI.out.bel
              by_cases hqk : q < k
              · have hqi : (q : Int) < (k : Int) := by omega
                obtain ⟨b1, off1, rfl, hbl1, hc1⟩ := gr.rowShard (by omega)
                obtain ⟨x0, x1, x2⟩ := hc1 q hqk
                have cb : ∀ o, wu.cell? ⟨b1, o, none⟩ = w.cell? ⟨b1, o, none⟩ := fun o => BBu.cell (p := ⟨b1, o, none⟩) hbl1
                rw [← cb] at x0 x1 x2
                have HIQ := Lib.hid (HIN.out q hqk)
                have HATQ := Lib.hid (HAT.out q hqk)
                have HSQ := Lib.hid (HST.out q hqk)
                clear hc1 cb
                generalize atShard xs q = s at *
                obtain ⟨lo, hi, A, N, C, es⟩ := s
                simp only at x0 x1 x2 HIQ HATQ
                have hNlen := HIQ.out.len
                have HNL := Lib.hid hNlen
                have hNle := HIQ.out.le
                have hNmx := HIQ.out.max
                unfold maxLen at hNmx
                clear hNlen
                have hes : (atSh D q).2.2 = es := by rw [HATQ.out]
                have HES := Lib.hid hes
                have hba := (Below.refl wu.heap.size wu).alloc (Nat.le_refl _) (.cells #[.int .i64 lo, .int .i64 hi, .slice A N C] 47)
                have HIA0 : Hid (JInv n D w wo.heap.size wA.heap.size (wA.heap.size + 1) M (jRest D q 0) gs ss (wu.alloc (.cells #[.int .i64 lo, .int .i64 hi, .slice A N C] 47))) := Lib.hid ((HI.out.later hba).rest_eq (jRest_zero D q (by rw [HDL.out]; exact hqk)))
                clear hba hes
                go_wp2
                go_loopw [71] (fun i wv => ∃ (j : Nat) (gs : List EdgeR) (ss : List Bool), j ≤ N ∧ i = .int .i64 j ∧ Hid (JInv n D w wo.heap.size wA.heap.size (wA.heap.size + 1) M (jRest D q j) gs ss wv)) (fun i _ => N - (intOf i).toNat)
                case atStart => exact ⟨0, gs, ss, Nat.zero_le _, rfl, HIA0⟩
                case round =>
                  clear HI HIA0 x0 x1 x2
                  obtain ⟨j, gs, ss, hj, rfl, HI⟩ := hrel
                  obtain ⟨wv, hwv⟩ : ∃ wv : World, wv = wr := ⟨_, rfl⟩
                  subst hwv
                  by_cases hjN : j < N
                  · have hjl : j < (atSh D q).2.2.length := by rw [HES.out, HNL.out]; exact hjN
                    have hsd := jSound HSQ.out hjl
                    have HRC := Lib.hid (jRest_cons D q j hjl)
                    rw [HES.out] at hsd HRC
                    clear hjl
                    obtain ⟨b2, off2, rfl, hbl2, hc2⟩ := HIQ.out.rowSEdge (by omega)
                    obtain ⟨y0, y1, y2, y3, y4⟩ := hc2 j hjN
                    have cb : ∀ o, wv.cell? ⟨b2, o, none⟩ = w.cell? ⟨b2, o, none⟩ := fun o => HI.out.bel.cell (p := ⟨b2, o, none⟩) hbl2
                    rw [← cb] at y0 y1 y2 y3 y4
                    clear hc2 cb
                    generalize atSEdge es j = e at *
                    obtain ⟨fr, to, wt, ixx, vl⟩ := e
                    simp only at y0 y1 y2 y3 y4 hsd
                    obtain ⟨f0, f1, ix0, ix1⟩ := hsd
                    obtain ⟨ix, rfl⟩ := Int.eq_ofNat_of_zero_le ix0
                    have hji : (j : Int) < (N : Int) := by omega
                    by_cases c1 : n ≤ fr
                    · have HBAD : Hid (jBad n M ⟨fr, to, wt, (ix : Int), vl⟩ ss = true) := Lib.hid (by unfold jBad; simp [c1])
                      by_cases c9 : (ix : Int) < (M : Int)
                      · have HF := Lib.hid (joinedF_plc (n := n) (D := D) (by rw [HI.out.run, HRC.out, plc_bad HBAD.out]))
                        obtain ⟨r0, r1, r2, r3⟩ := HI.out.res
                        have hzr := HI.out.res.lt
                        go_wp2
                        refine bodyPost_ret (v := .tuple #[.agg #[.int .i64 0, .slice none 0 0], .bool false]) (by simp [results, Try.results52, go_sem, hzr, r0, r1]) rfl ?_
                        rw [HF.out]
                        exact RetGrK.zero ((HI.out.bel.trans ((put2_win wv w.heap.size _ _).below (Nat.le_refl _) HI.out.bel.size)).alloc (by simp only [size_set]; exact HI.out.bel.size) _)
                      · have c9' : (M : Int) ≤ (ix : Int) := by omega
                        clear c9
                        have HF := Lib.hid (joinedF_plc (n := n) (D := D) (by rw [HI.out.run, HRC.out, plc_bad HBAD.out]))
                        obtain ⟨r0, r1, r2, r3⟩ := HI.out.res
                        have hzr := HI.out.res.lt
                        go_wp2
                        refine bodyPost_ret (v := .tuple #[.agg #[.int .i64 0, .slice none 0 0], .bool false]) (by simp [results, Try.results52, go_sem, hzr, r0, r1]) rfl ?_
                        rw [HF.out]
                        exact RetGrK.zero ((HI.out.bel.trans ((put2_win wv w.heap.size _ _).below (Nat.le_refl _) HI.out.bel.size)).alloc (by simp only [size_set]; exact HI.out.bel.size) _)
                    · have c1' : fr < n := by omega
                      clear c1
                      by_cases c2 : ix < M
                      · have c2i : (ix : Int) < (M : Int) := by omega
                        have hsn : wv.cell? ⟨wA.heap.size + 1, ix, none⟩ = some (.bool (ss.getD ix false)) := by
                          rw [HI.out.seen.cellAt ix (by omega), List.getElem?_map]
                          have : ix < ss.length := by rw [HI.out.sl]; exact c2
                          simp [List.getD, this]
                        have hzS := (HI.out.seen.lt _ rfl).2
                        obtain ⟨bs, hbs⟩ : ∃ bs, bs = ss.getD ix false := ⟨_, rfl⟩
                        rw [← hbs] at hsn
                        cases bs with
                        | true =>
                          have HBAD : Hid (jBad n M ⟨fr, to, wt, (ix : Int), vl⟩ ss = true) := Lib.hid (by unfold jBad; simp only [Int.toNat_natCast]; rw [← hbs]; simp)
                          clear hbs
                          have HF := Lib.hid (joinedF_plc (n := n) (D := D) (by rw [HI.out.run, HRC.out, plc_bad HBAD.out]))
                          obtain ⟨r0, r1, r2, r3⟩ := HI.out.res
                          have hzr := HI.out.res.lt
                          go_wp2
                          refine bodyPost_ret (v := .tuple #[.agg #[.int .i64 0, .slice none 0 0], .bool false]) (by simp [results, Try.results52, go_sem, hzr, r0, r1]) rfl ?_
                          rw [HF.out]
                          exact RetGrK.zero ((HI.out.bel.trans ((put2_win wv w.heap.size _ _).below (Nat.le_refl _) HI.out.bel.size)).alloc (by simp only [size_set]; exact HI.out.bel.size) _)
                        | false =>
                          have hgood : jBad n M ⟨fr, to, wt, (ix : Int), vl⟩ ss = false := by
                            unfold jBad
                            simp only [Int.toNat_natCast]
                            rw [← hbs, decide_eq_false (by omega), decide_eq_false (by omega)]
                            rfl
                          have HNX := Lib.hid ((((HI.out.rest_eq HRC.out).put hgood rfl c2).later ((Below.refl _ _).alloc (Nat.le_refl _) (.cells #[.int .i64 fr, .int .i64 to, .int .i64 wt, .int .i64 (ix : Int), .int .i64 vl] 94))))
                          have hfs := HI.out.seen.frozenAt ix
                          have hf0 := HI.out.own.frozenAt (ix * 3)
                          have hf1 := HI.out.own.frozenAt (ix * 3 + 1)
                          have hf2 := HI.out.own.frozenAt (ix * 3 + 2)
                          have hxl : ix < gs.length := by rw [HI.out.gl]; exact c2
                          obtain ⟨d0, hd0⟩ : ∃ d, wv.cell? ⟨wo.heap.size, ix * 3, none⟩ = some d := own_cell3 HI.out.own (by omega)
                          obtain ⟨d1, hd1⟩ : ∃ d, wv.cell? ⟨wo.heap.size, ix * 3 + 1, none⟩ = some d := own_cell3 HI.out.own (by omega)
                          obtain ⟨d2, hd2⟩ : ∃ d, wv.cell? ⟨wo.heap.size, ix * 3 + 2, none⟩ = some d := own_cell3 HI.out.own (by omega)
                          obtain ⟨z0, z1, _, _⟩ := HI.out.box
                          have hzG := HI.out.box.lt
                          have hzE := (HI.out.own.lt _ rfl).2
                          clear hgood hbs hxl
                          go_wp2
                          go_roundw
                          case rel => exact ⟨j + 1, _, _, by omega, by go_num, HNX⟩
                          case measure => simp [intOf]; omega
                      · have HBAD : Hid (jBad n M ⟨fr, to, wt, (ix : Int), vl⟩ ss = true) := Lib.hid (by unfold jBad; rw [decide_eq_true (show (M : Int) ≤ (ix : Int) by omega)]; simp)
                        have c2i : (M : Int) ≤ (ix : Int) := by omega
                        clear c2
                        have HF := Lib.hid (joinedF_plc (n := n) (D := D) (by rw [HI.out.run, HRC.out, plc_bad HBAD.out]))
                        obtain ⟨r0, r1, r2, r3⟩ := HI.out.res
                        have hzr := HI.out.res.lt
                        go_wp2
                        refine bodyPost_ret (v := .tuple #[.agg #[.int .i64 0, .slice none 0 0], .bool false]) (by simp [results, Try.results52, go_sem, hzr, r0, r1]) rfl ?_
                        rw [HF.out]
                        exact RetGrK.zero ((HI.out.bel.trans ((put2_win wv w.heap.size _ _).below (Nat.le_refl _) HI.out.bel.size)).alloc (by simp only [size_set]; exact HI.out.bel.size) _)
                  · obtain rfl : j = N := by omega
                    have HNX := Lib.hid (HI.out.rest_eq (jRest_end D q j (by rw [HES.out, HNL.out]; exact Nat.le_refl _)))
                    go_wp2
                    go_roundw
                    case rel => exact ⟨q + 1, gs, ss, by omega, by go_num, HNX⟩
                    case measure => simp [intOf]; omega
              · obtain rfl : q = k := by omega
                have hE0 : jE D q = [] := by rw [← HDL.out]; exact jE_end D
                have HFI := Lib.hid ((HI.out.rest_eq hE0).fin HH.out hC)
                clear hE0
                obtain ⟨r0, r1, r2, r3⟩ := HI.out.res
                obtain ⟨z0, z1, _, _⟩ := HI.out.box
                have hzr := HI.out.res.lt
                go_wp2
                refine bodyPost_ret (v := .tuple #[.agg #[.int .i64 n, .slice (some ⟨wo.heap.size, 0, none⟩) M M], .bool true]) (by simp [results, Try.results52, go_sem, r0, r1]) rfl ?_
                exact HFI.out
          · have HF := Lib.hid (joinedF_head (n := n) (D := D) (by unfold jHead; rw [HDL.out, decide_eq_false hC]; simp))
            have hLB : (jLast D k != n) = false := by simp [hLn]
            have hcI : 400 < ((jCnt D k : Nat) : Int) := by omega
            clear hC hLn
            obtain ⟨r0, r1, r2, r3⟩ := HBr
            have hz1 : w.heap.size < wr.heap.size := World.block_lt_of_cell? _ _ r0
            go_wp2
            refine bodyPost_ret (v := .tuple #[.agg #[.int .i64 0, .slice none 0 0], .bool false]) (by simp [results, Try.results52, go_sem, r0, r1]) rfl ?_
            rw [HF.out]
            exact RetGrK.zero (BBr.trans ((put2_win wr w.heap.size _ _).below (Nat.le_refl _) BBr.size))
        · have HF := Lib.hid (joinedF_head (n := n) (D := D) (by unfold jHead; rw [HDL.out, decide_eq_false hLn]; simp))
          have hLB : (jLast D k != n) = true := by simp [hLn]
          clear hLn
          obtain ⟨r0, r1, r2, r3⟩ := HBr
          have hz1 : w.heap.size < wr.heap.size := World.block_lt_of_cell? _ _ r0
          go_wp2
          refine bodyPost_ret (v := .tuple #[.agg #[.int .i64 0, .slice none 0 0], .bool false]) (by simp [results, Try.results52, go_sem, r0, r1]) rfl ?_
          rw [HF.out]
          exact RetGrK.zero (BBr.trans ((put2_win wr w.heap.size _ _).below (Nat.le_refl _) BBr.size))
      · have HF : Hid (joinedF n D = ((0, []), false)) := Lib.hid (joinedF_head (by unfold jHead; by_cases h1 : 0 ≤ n <;> by_cases h2 : n ≤ 150 <;> simp [h1, h2] <;> omega))
        obtain ⟨r0, r1, r2, r3⟩ := HBr
        have hz1 : w.heap.size < wr.heap.size := World.block_lt_of_cell? _ _ r0
        by_cases h0 : 0 ≤ n
        · have h1 : 150 < n := by omega
          clear hn
          go_wp2
          refine bodyPost_ret (v := .tuple #[.agg #[.int .i64 0, .slice none 0 0], .bool false]) (by simp [results, Try.results52, go_sem, r0, r1]) rfl ?_
          rw [HF.out]
          exact RetGrK.zero (BBr.trans ((put2_win wr w.heap.size _ _).below (Nat.le_refl _) BBr.size))
        · have h1 : n < 0 := by omega
          clear hn h0
          go_wp2
          refine bodyPost_ret (v := .tuple #[.agg #[.int .i64 0, .slice none 0 0], .bool false]) (by simp [results, Try.results52, go_sem, r0, r1]) rfl ?_
          rw [HF.out]
          exact RetGrK.zero (BBr.trans ((put2_win wr w.heap.size _ _).below (Nat.le_refl _) BBr.size))
end Go.Proofs.Ytifaekkbdmcehaa

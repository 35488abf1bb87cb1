/- partialInsertionSort_func over a row of Rec. -/
import Derived.Test.YthffmjeodoinlaaDoorSrt
import Derived.Sort.WalkA6
namespace Go.Proofs.YthffmjeodoinlaaDoor
open Go.RowKit Go.Lib
set_option maxHeartbeats 12800000 in
set_option maxRecDepth 100000 in
theorem srt_partial (g sf : Nat) (lb sb : Array Value) (blk off N : Nat) (a b : Nat) (d : Array RecR) (w : World) (E : SEnv g sf lb sb blk off N w) (hH : Srt blk off w w d) (hN : d.size = N) (hab : a < b) (hb : b ≤ N) :
    Calls Tryd.prog 72 #[.agg #[.func (.func g) #[] lb, .func (.func sf) #[] sb], .int .i64 a, .int .i64 b] w fun e w' => e = .returned (.bool (Sort.partialInsertionSort lessR d a b).2) ∧ Srt blk off w w' (Sort.partialInsertionSort lessR d a b).1 := by
  have S0 : SSt blk off w.heap.size (.func (.func g) #[] lb) (.func (.func sf) #[] sb) w (w.alloc (.cells #[.func (.func g) #[] lb, .func (.func sf) #[] sb] 101)) d := SSt.start hH.hold hH.lt _
  have eg := E.eg
  have hbig := E.big
  go_enter Tryd.func72, Tryd.ntmps72
  go_wp2
  go_loopw [7, 8] (fun vi vs wr => ∃ (i s : Nat) (dk : Array RecR), vi = .int .i64 i ∧ vs = .int .i64 s ∧ s ≤ 5 ∧ a < i ∧ i ≤ b ∧ dk.size = N ∧ SSt blk off w.heap.size (.func (.func g) #[] lb) (.func (.func sf) #[] sb) w wr dk ∧ Hid (Sort.partialIns lessR a b (5 - s) i dk = Sort.partialIns lessR a b 5 (a + 1) d)) (fun _ vs _ => 5 - (intOf vs).toNat)
  case atStart => exact ⟨a + 1, 0, d, by go_num, rfl, by omega, by omega, by omega, hN, S0, Lib.hid rfl⟩
  case round =>
    obtain ⟨i, s, dk, rfl, rfl, hs5, hai, hib, hsS, S, HO⟩ := hrel
    clear S0
    by_cases hs : s < 5
    · have hsz5 : (s : Int) < 5 := by omega
      go_wp2
      go_loopw [7] (fun vi wr2 => ∃ (kx : Nat), vi = .int .i64 kx ∧ i ≤ kx ∧ kx ≤ b ∧ SSt blk off w.heap.size (.func (.func g) #[] lb) (.func (.func sf) #[] sb) w wr2 dk ∧ Hid (Sort.scanSorted lessR dk b kx = Sort.scanSorted lessR dk b i)) (fun vi _ => b - (intOf vi).toNat)
      case atStart => exact ⟨i, rfl, Nat.le_refl _, hib, S, Lib.hid rfl⟩
      case round =>
        obtain ⟨kx, rfl, hik, hkb, S1, HSc⟩ := hrel
        clear S
        have c0 := S1.c0
        by_cases hkb' : kx < b
        · have hkz : (kx : Int) < (b : Int) := by omega
          cases hlv : lessR dk[kx]! dk[kx - 1]! with
          | false =>
            have HG := Lib.hid (scanSorted_go lessR dk b kx hkb' hlv)
            have hl := E.lessAt S1 hsS (kx : Int) ((kx : Int) - 1) (kx) (kx - 1) (by omega) (by omega) (by omega) (by omega) hlv
            clear hlv
            go_wp2_with fail
            refine hl.mono ?_
            rintro e w5 ⟨rfl, hbw5⟩
            have S5 := S1.below hbw5
            clear hl hbw5 c0
            go_wp2
            go_roundw
            case rel => exact ⟨kx + 1, by go_num, by omega, by omega, S5, Lib.hid (HG.out.symm.trans HSc.out)⟩
            case measure => simp [intOf]; omega
          | true =>
            have HK : Hid (Sort.scanSorted lessR dk b i = kx) := Lib.hid (by rw [← HSc.out, scanSorted_stop lessR dk b kx (Or.inr hlv)])
            have hkne : ((kx : Int) == (b : Int)) = false := beq_eq_false_iff_ne.2 (by omega)
            have hl := E.lessAt S1 hsS (kx : Int) ((kx : Int) - 1) (kx) (kx - 1) (by omega) (by omega) (by omega) (by omega) hlv
            clear hlv
            go_wp2_with fail
            refine hl.mono ?_
            rintro e w5 ⟨rfl, hbw5⟩
            have S5 := S1.below hbw5
            clear hl hbw5 c0
            by_cases h50 : b - a < 50
            · have h50z : (b : Int) - (a : Int) < 50 := by omega
              have hv : Sort.partialInsertionSort lessR d a b = (dk, false) := by
                unfold Sort.partialInsertionSort
                rw [← HO.out, pi_short lessR a b s i dk hs (by rw [HK.out]; omega) h50]
              go_wp2
              go_ret
              exact ⟨by rw [hv]; rfl, by rw [hv]; exact S5.s⟩
            · have h50z : ¬ ((b : Int) - (a : Int) < 50) := by omega
              obtain ⟨w6, hsww6, S6⟩ := E.swapAt S5 hsS (kx : Int) ((kx : Int) - 1) (kx) (kx - 1) (by omega) (by omega) (by omega) (by omega)
              have c1w6 := S5.c1
              have hsS6 : (Sort.swp dk kx (kx - 1)).size = N := by rw [sz_swp]; exact hsS
              obtain ⟨X1, hX1⟩ : ∃ X1, Sort.swp dk kx (kx - 1) = X1 := ⟨_, rfl⟩
              have HX := Lib.hid hX1
              rw [hX1] at S6 hsS6
              clear hX1
              by_cases hka : kx - a ≥ 2
              · have hkaz : (2 : Int) ≤ (kx : Int) - (a : Int) := by omega
                go_wp2
                go_loopw [9] (fun vj wr3 => ∃ (j : Nat) (dj : Array RecR), vj = .int .i64 j ∧ j ≤ kx - 1 ∧ dj.size = N ∧ SSt blk off w.heap.size (.func (.func g) #[] lb) (.func (.func sf) #[] sb) w wr3 dj ∧ Hid (Sort.shiftDown lessR j dj = Sort.shiftDown lessR (kx - 1) X1)) (fun vj _ => (intOf vj).toNat)
                case atStart => exact ⟨kx - 1, X1, by congr 1; omega, Nat.le_refl _, hsS6, S6, Lib.hid rfl⟩
                case round =>
                  clear hsww6 c1w6 S5 S6
                  obtain ⟨j, dj, rfl, hjk, hsV, V, HDn⟩ := hrel
                  have c0 := V.c0
                  by_cases hj1 : 1 ≤ j
                  · have hj1z : (1 : Int) ≤ (j : Int) := by omega
                    cases hlv2 : lessR dj[j]! dj[j - 1]! with
                    | true =>
                      have HG := Lib.hid (shiftDown_go lessR j dj hj1 hlv2)
                      have hl := E.lessAt V hsV (j : Int) ((j : Int) - 1) (j) (j - 1) (by omega) (by omega) (by omega) (by omega) hlv2
                      clear hlv2
                      go_wp2_with fail
                      refine hl.mono ?_
                      rintro e w7 ⟨rfl, hbw7⟩
                      have V2 := V.below hbw7
                      clear hl hbw7 c0
                      obtain ⟨w8, hsww8, V3⟩ := E.swapAt V2 hsV (j : Int) ((j : Int) - 1) (j) (j - 1) (by omega) (by omega) (by omega) (by omega)
                      have c1w8 := V2.c1
                      go_wp2
                      go_roundw
                      case rel => exact ⟨j - 1, _, by congr 1; omega, by omega, by rw [sz_swp]; exact hsV, V3, Lib.hid (HG.out.symm.trans HDn.out)⟩
                      case measure => simp [intOf]; omega
                    | false =>
                      have HD : Hid (Sort.fixDown lessR a kx (Sort.swp dk kx (kx - 1)) = dj) := Lib.hid (by unfold Sort.fixDown; rw [if_pos hka, HX.out, ← HDn.out, shiftDown_stop lessR j dj (Or.inr hlv2)])
                      have hsV2 := hsV
                      have hl := E.lessAt V hsV (j : Int) ((j : Int) - 1) (j) (j - 1) (by omega) (by omega) (by omega) (by omega) hlv2
                      clear hlv2
                      go_wp2_with fail
                      refine hl.mono ?_
                      rintro e w7 ⟨rfl, hbw7⟩
                      have V2 := V.below hbw7
                      clear hl hbw7 c0
                      by_cases hbk : b - kx ≥ 2
                      · have hbkz : (2 : Int) ≤ (b : Int) - (kx : Int) := by omega
                        go_wp2
                        go_loopw [10] (fun vj wr4 => ∃ (ju : Nat) (du : Array RecR), vj = .int .i64 ju ∧ kx + 1 ≤ ju ∧ ju ≤ b ∧ du.size = N ∧ SSt blk off w.heap.size (.func (.func g) #[] lb) (.func (.func sf) #[] sb) w wr4 du ∧ Hid (Sort.shiftUp lessR b ju du = Sort.shiftUp lessR b (kx + 1) dj)) (fun vj _ => b - (intOf vj).toNat)
                        case atStart => exact ⟨kx + 1, dj, by go_num, Nat.le_refl _, by omega, hsV2, V2, Lib.hid rfl⟩
                        case round =>
                          obtain ⟨ju, du, rfl, hkj, hjb, hsU, U, HU⟩ := hrel
                          clear V2
                          have c0 := U.c0
                          by_cases hjb' : ju < b
                          · have hjz : (ju : Int) < (b : Int) := by omega
                            cases hlv3 : lessR du[ju]! du[ju - 1]! with
                            | true =>
                              have HG := Lib.hid (shiftUp_go lessR b ju du hjb' hlv3)
                              have hl := E.lessAt U hsU (ju : Int) ((ju : Int) - 1) (ju) (ju - 1) (by omega) (by omega) (by omega) (by omega) hlv3
                              clear hlv3
                              go_wp2_with fail
                              refine hl.mono ?_
                              rintro e w8 ⟨rfl, hbw8⟩
                              have U2 := U.below hbw8
                              clear hl hbw8 c0
                              obtain ⟨w9, hsww9, U3⟩ := E.swapAt U2 hsU (ju : Int) ((ju : Int) - 1) (ju) (ju - 1) (by omega) (by omega) (by omega) (by omega)
                              have c1w9 := U2.c1
                              go_wp2
                              go_roundw
                              case rel => exact ⟨ju + 1, _, by go_num, by omega, by omega, by rw [sz_swp]; exact hsU, U3, Lib.hid (HG.out.symm.trans HU.out)⟩
                              case measure => simp [intOf]; omega
                            | false =>
                              have HG := Lib.hid (shiftUp_stop lessR b ju du (Or.inr hlv3))
                              have hsU2 := hsU
                              have hl := E.lessAt U hsU (ju : Int) ((ju : Int) - 1) (ju) (ju - 1) (by omega) (by omega) (by omega) (by omega) hlv3
                              clear hlv3
                              go_wp2_with fail
                              refine hl.mono ?_
                              rintro e w8 ⟨rfl, hbw8⟩
                              have U2 := U.below hbw8
                              clear hl hbw8 c0
                              go_wp2
                              go_roundw
                              case rel => exact ⟨kx, s + 1, du, rfl, by go_num, by omega, by omega, by omega, hsU2, U2, Lib.hid (by rw [← HO.out, pi_go lessR a b s i kx dk hs HK.out (by omega) h50, HD.out, show Sort.fixUp lessR b kx dj = du from by unfold Sort.fixUp; rw [if_pos hbk, ← HU.out, HG.out]])⟩
                              case measure => simp [intOf]; omega
                          · have hjz : ¬ (ju : Int) < (b : Int) := by omega
                            go_wp2
                            go_roundw
                            case rel => exact ⟨kx, s + 1, du, rfl, by go_num, by omega, by omega, by omega, hsU, U, Lib.hid (by rw [← HO.out, pi_go lessR a b s i kx dk hs HK.out (by omega) h50, HD.out, show Sort.fixUp lessR b kx dj = du from by unfold Sort.fixUp; rw [if_pos hbk, ← HU.out, shiftUp_stop lessR b ju du (Or.inl hjb')]])⟩
                            case measure => simp [intOf]; omega
                      · have hbkz : ¬ (2 : Int) ≤ (b : Int) - (kx : Int) := by omega
                        go_wp2
                        go_roundw
                        case rel => exact ⟨kx, s + 1, dj, rfl, by go_num, by omega, by omega, by omega, hsV2, V2, Lib.hid (by rw [← HO.out, pi_go lessR a b s i kx dk hs HK.out (by omega) h50, HD.out, show Sort.fixUp lessR b kx dj = dj from by unfold Sort.fixUp; rw [if_neg hbk]])⟩
                        case measure => simp [intOf]; omega
                  · have hj1z : ¬ (1 : Int) ≤ (j : Int) := by omega
                    have HD : Hid (Sort.fixDown lessR a kx (Sort.swp dk kx (kx - 1)) = dj) := Lib.hid (by unfold Sort.fixDown; rw [if_pos hka, HX.out, ← HDn.out, shiftDown_stop lessR j dj (Or.inl (by omega))])
                    clear c0
                    by_cases hbk : b - kx ≥ 2
                    · have hbkz : (2 : Int) ≤ (b : Int) - (kx : Int) := by omega
                      go_wp2
                      go_loopw [10] (fun vj wr4 => ∃ (ju : Nat) (du : Array RecR), vj = .int .i64 ju ∧ kx + 1 ≤ ju ∧ ju ≤ b ∧ du.size = N ∧ SSt blk off w.heap.size (.func (.func g) #[] lb) (.func (.func sf) #[] sb) w wr4 du ∧ Hid (Sort.shiftUp lessR b ju du = Sort.shiftUp lessR b (kx + 1) dj)) (fun vj _ => b - (intOf vj).toNat)
                      case atStart => exact ⟨kx + 1, dj, by go_num, Nat.le_refl _, by omega, hsV, V, Lib.hid rfl⟩
                      case round =>
                        obtain ⟨ju, du, rfl, hkj, hjb, hsU, U, HU⟩ := hrel
                        clear V
                        have c0 := U.c0
                        by_cases hjb' : ju < b
                        · have hjz : (ju : Int) < (b : Int) := by omega
                          cases hlv3 : lessR du[ju]! du[ju - 1]! with
                          | true =>
                            have HG := Lib.hid (shiftUp_go lessR b ju du hjb' hlv3)
                            have hl := E.lessAt U hsU (ju : Int) ((ju : Int) - 1) (ju) (ju - 1) (by omega) (by omega) (by omega) (by omega) hlv3
                            clear hlv3
                            go_wp2_with fail
                            refine hl.mono ?_
                            rintro e w8 ⟨rfl, hbw8⟩
                            have U2 := U.below hbw8
                            clear hl hbw8 c0
                            obtain ⟨w9, hsww9, U3⟩ := E.swapAt U2 hsU (ju : Int) ((ju : Int) - 1) (ju) (ju - 1) (by omega) (by omega) (by omega) (by omega)
                            have c1w9 := U2.c1
                            go_wp2
                            go_roundw
                            case rel => exact ⟨ju + 1, _, by go_num, by omega, by omega, by rw [sz_swp]; exact hsU, U3, Lib.hid (HG.out.symm.trans HU.out)⟩
                            case measure => simp [intOf]; omega
                          | false =>
                            have HG := Lib.hid (shiftUp_stop lessR b ju du (Or.inr hlv3))
                            have hsU2 := hsU
                            have hl := E.lessAt U hsU (ju : Int) ((ju : Int) - 1) (ju) (ju - 1) (by omega) (by omega) (by omega) (by omega) hlv3
                            clear hlv3
                            go_wp2_with fail
                            refine hl.mono ?_
                            rintro e w8 ⟨rfl, hbw8⟩
                            have U2 := U.below hbw8
                            clear hl hbw8 c0
                            go_wp2
                            go_roundw
                            case rel => exact ⟨kx, s + 1, du, rfl, by go_num, by omega, by omega, by omega, hsU2, U2, Lib.hid (by rw [← HO.out, pi_go lessR a b s i kx dk hs HK.out (by omega) h50, HD.out, show Sort.fixUp lessR b kx dj = du from by unfold Sort.fixUp; rw [if_pos hbk, ← HU.out, HG.out]])⟩
                            case measure => simp [intOf]; omega
                        · have hjz : ¬ (ju : Int) < (b : Int) := by omega
                          go_wp2
                          go_roundw
                          case rel => exact ⟨kx, s + 1, du, rfl, by go_num, by omega, by omega, by omega, hsU, U, Lib.hid (by rw [← HO.out, pi_go lessR a b s i kx dk hs HK.out (by omega) h50, HD.out, show Sort.fixUp lessR b kx dj = du from by unfold Sort.fixUp; rw [if_pos hbk, ← HU.out, shiftUp_stop lessR b ju du (Or.inl hjb')]])⟩
                          case measure => simp [intOf]; omega
                    · have hbkz : ¬ (2 : Int) ≤ (b : Int) - (kx : Int) := by omega
                      go_wp2
                      go_roundw
                      case rel => exact ⟨kx, s + 1, dj, rfl, by go_num, by omega, by omega, by omega, hsV, V, Lib.hid (by rw [← HO.out, pi_go lessR a b s i kx dk hs HK.out (by omega) h50, HD.out, show Sort.fixUp lessR b kx dj = dj from by unfold Sort.fixUp; rw [if_neg hbk]])⟩
                      case measure => simp [intOf]; omega
              · have hkaz : ¬ (2 : Int) ≤ (kx : Int) - (a : Int) := by omega
                have HD : Hid (Sort.fixDown lessR a kx (Sort.swp dk kx (kx - 1)) = X1) := Lib.hid (by unfold Sort.fixDown; rw [if_neg hka, HX.out])
                by_cases hbk : b - kx ≥ 2
                · have hbkz : (2 : Int) ≤ (b : Int) - (kx : Int) := by omega
                  go_wp2
                  go_loopw [10] (fun vj wr4 => ∃ (ju : Nat) (du : Array RecR), vj = .int .i64 ju ∧ kx + 1 ≤ ju ∧ ju ≤ b ∧ du.size = N ∧ SSt blk off w.heap.size (.func (.func g) #[] lb) (.func (.func sf) #[] sb) w wr4 du ∧ Hid (Sort.shiftUp lessR b ju du = Sort.shiftUp lessR b (kx + 1) X1)) (fun vj _ => b - (intOf vj).toNat)
                  case atStart => exact ⟨kx + 1, X1, by go_num, Nat.le_refl _, by omega, hsS6, S6, Lib.hid rfl⟩
                  case round =>
                    obtain ⟨ju, du, rfl, hkj, hjb, hsU, U, HU⟩ := hrel
                    clear S6
                    have c0 := U.c0
                    by_cases hjb' : ju < b
                    · have hjz : (ju : Int) < (b : Int) := by omega
                      cases hlv3 : lessR du[ju]! du[ju - 1]! with
                      | true =>
                        have HG := Lib.hid (shiftUp_go lessR b ju du hjb' hlv3)
                        have hl := E.lessAt U hsU (ju : Int) ((ju : Int) - 1) (ju) (ju - 1) (by omega) (by omega) (by omega) (by omega) hlv3
                        clear hlv3
                        go_wp2_with fail
                        refine hl.mono ?_
                        rintro e w8 ⟨rfl, hbw8⟩
                        have U2 := U.below hbw8
                        clear hl hbw8 c0
                        obtain ⟨w9, hsww9, U3⟩ := E.swapAt U2 hsU (ju : Int) ((ju : Int) - 1) (ju) (ju - 1) (by omega) (by omega) (by omega) (by omega)
                        have c1w9 := U2.c1
                        go_wp2
                        go_roundw
                        case rel => exact ⟨ju + 1, _, by go_num, by omega, by omega, by rw [sz_swp]; exact hsU, U3, Lib.hid (HG.out.symm.trans HU.out)⟩
                        case measure => simp [intOf]; omega
                      | false =>
                        have HG := Lib.hid (shiftUp_stop lessR b ju du (Or.inr hlv3))
                        have hsU2 := hsU
                        have hl := E.lessAt U hsU (ju : Int) ((ju : Int) - 1) (ju) (ju - 1) (by omega) (by omega) (by omega) (by omega) hlv3
                        clear hlv3
                        go_wp2_with fail
                        refine hl.mono ?_
                        rintro e w8 ⟨rfl, hbw8⟩
                        have U2 := U.below hbw8
                        clear hl hbw8 c0
                        go_wp2
                        go_roundw
                        case rel => exact ⟨kx, s + 1, du, rfl, by go_num, by omega, by omega, by omega, hsU2, U2, Lib.hid (by rw [← HO.out, pi_go lessR a b s i kx dk hs HK.out (by omega) h50, HD.out, show Sort.fixUp lessR b kx X1 = du from by unfold Sort.fixUp; rw [if_pos hbk, ← HU.out, HG.out]])⟩
                        case measure => simp [intOf]; omega
                    · have hjz : ¬ (ju : Int) < (b : Int) := by omega
                      go_wp2
                      go_roundw
                      case rel => exact ⟨kx, s + 1, du, rfl, by go_num, by omega, by omega, by omega, hsU, U, Lib.hid (by rw [← HO.out, pi_go lessR a b s i kx dk hs HK.out (by omega) h50, HD.out, show Sort.fixUp lessR b kx X1 = du from by unfold Sort.fixUp; rw [if_pos hbk, ← HU.out, shiftUp_stop lessR b ju du (Or.inl hjb')]])⟩
                      case measure => simp [intOf]; omega
                · have hbkz : ¬ (2 : Int) ≤ (b : Int) - (kx : Int) := by omega
                  exfalso; omega
        · obtain rfl : kx = b := by omega
          have hkne : ((kx : Int) == (kx : Int)) = true := by simp
          have hv : Sort.partialInsertionSort lessR d a kx = (dk, true) := by
            unfold Sort.partialInsertionSort
            rw [← HO.out, pi_true lessR a kx s i dk hs (by rw [← HSc.out, scanSorted_stop lessR dk kx kx (Or.inl hkb')])]
          go_wp2
          go_ret
          exact ⟨by rw [hv]; rfl, by rw [hv]; exact S1.s⟩
    · obtain rfl : s = 5 := by omega
      have hv : Sort.partialInsertionSort lessR d a b = (dk, false) := by
        unfold Sort.partialInsertionSort
        rw [← HO.out, pi_end]
      go_wp2
      go_ret
      exact ⟨by rw [hv]; rfl, by rw [hv]; exact S.s⟩
end Go.Proofs.YthffmjeodoinlaaDoor

/- partitionEqual_func and partition_func over a row of Rec. -/
import Derived.Test.YthffmjeodoinlaaDoorSrt
import Derived.Sort.WalkC4
namespace Go.Proofs.YthffmjeodoinlaaDoor
open Go.RowKit Go.Lib
set_option maxHeartbeats 6400000 in
set_option maxRecDepth 100000 in
theorem srt_parteq (g sf : Nat) (lb sb : Array Value) (blk off N : Nat) (a b pivot : Nat) (d : Array RecR) (w : World) (E : SEnv g sf lb sb blk off N w) (hH : Srt blk off w w d) (hN : d.size = N) (hap : a ≤ pivot) (hpb : pivot < b) (hb : b ≤ N) :
    Calls Tryd.prog 73 #[.agg #[.func (.func g) #[] lb, .func (.func sf) #[] sb], .int .i64 a, .int .i64 b, .int .i64 pivot] w fun e w' => e = .returned (.int .i64 (Sort.partitionEqual lessR d a b pivot).1) ∧ Srt blk off w w' (Sort.partitionEqual lessR d a b pivot).2 := by
  have S0 : SSt blk off w.heap.size (.func (.func g) #[] lb) (.func (.func sf) #[] sb) w (w.alloc (.cells #[.func (.func g) #[] lb, .func (.func sf) #[] sb] 101)) d := SSt.start hH.hold hH.lt _
  have eg := E.eg
  have hbig := E.big
  obtain ⟨w1, hsw0, S1⟩ := E.swapAt S0 hN (a : Int) (pivot : Int) a pivot rfl rfl (by omega) (by omega)
  go_enter Tryd.func73, Tryd.ntmps73
  go_wp2
  go_loopw [9, 10] (fun vi vj wr => ∃ (i j : Nat) (dk : Array RecR), vi = .int .i64 i ∧ vj = .int .i64 j ∧ a < i ∧ i ≤ j + 1 ∧ j < b ∧ dk.size = N ∧ SSt blk off w.heap.size (.func (.func g) #[] lb) (.func (.func sf) #[] sb) w wr dk ∧ Sort.partEqLoop lessR a i j dk = Sort.partEqLoop lessR a (a + 1) (b - 1) (Sort.swp d a pivot)) (fun vi vj _ => (intOf vj).toNat + 1 - (intOf vi).toNat)
  case atStart => exact ⟨a + 1, b - 1, Sort.swp d a pivot, by go_num, by congr 1; omega, by omega, by omega, by omega, by rw [sz_swp]; exact hN, S1, rfl⟩
  case round =>
    obtain ⟨i, j, dk, rfl, rfl, hai, hij, hjb, hs, S, heq⟩ := hrel
    have AE := Lib.hid heq
    clear heq S0 S1 hsw0
    go_wp2
    go_loopw [9] (fun vi w1 => ∃ (i' : Nat), vi = .int .i64 i' ∧ i ≤ i' ∧ i' ≤ j + 1 ∧ SSt blk off w.heap.size (.func (.func g) #[] lb) (.func (.func sf) #[] sb) w w1 dk ∧ Hid (Sort.scanUp (fun x => !lessR dk[a]! x) dk j i' = Sort.scanUp (fun x => !lessR dk[a]! x) dk j i)) (fun vi _ => j + 1 - (intOf vi).toNat)
    case atStart => exact ⟨i, rfl, Nat.le_refl _, hij, S, Lib.hid rfl⟩
    case round =>
      obtain ⟨i', rfl, hii, hij', S1, hsc⟩ := hrel
      clear S
      have c0 := S1.c0
      by_cases hle : i' ≤ j
      · have hlei : (i' : Int) ≤ (j : Int) := by omega
        cases hlv : lessR dk[a]! dk[i']! with
        | false =>
          have HG := Lib.hid (scanUp_go (fun x => !lessR dk[a]! x) dk j i' hle (by simp [hlv]))
          have hl := E.lessAt S1 hs (a : Int) (i' : Int) (a) (i') (by omega) (by omega) (by omega) (by omega) hlv
          clear hlv
          go_wp2_with fail
          refine hl.mono ?_
          rintro e w5 ⟨rfl, hbw5⟩
          have S5 := S1.below hbw5
          clear hl hbw5 c0
          go_wp2
          go_roundw
          case rel => exact ⟨i' + 1, by go_num, by omega, by omega, S5, Lib.hid (HG.out.symm.trans hsc.out)⟩
          case measure => simp [intOf]; omega
        | true =>
          have hi2 := Lib.hid ((scanUp_end (fun x => !lessR dk[a]! x) dk j i' (Or.inr (by simp [hlv]))).symm.trans hsc.out)
          have hl := E.lessAt S1 hs (a : Int) (i' : Int) (a) (i') (by omega) (by omega) (by omega) (by omega) hlv
          clear hlv
          go_wp2_with fail
          refine hl.mono ?_
          rintro e w5 ⟨rfl, hbw5⟩
          have S5 := S1.below hbw5
          clear hl hbw5 c0 hsc
          go_wp2
          go_loopw [10] (fun vj w2 => ∃ (j' : Nat), vj = .int .i64 j' ∧ j' ≤ j ∧ i' ≤ j' + 1 ∧ SSt blk off w.heap.size (.func (.func g) #[] lb) (.func (.func sf) #[] sb) w w2 dk ∧ Hid (Sort.scanDown (fun x => lessR dk[a]! x) dk i' j' = Sort.scanDown (fun x => lessR dk[a]! x) dk i' j)) (fun vj _ => (intOf vj).toNat)
          case atStart => exact ⟨j, rfl, Nat.le_refl _, hij', S5, Lib.hid rfl⟩
          case round =>
            obtain ⟨j', rfl, hjj, hij2, S2, hsd⟩ := hrel
            clear S5
            have d0 := S2.c0
            by_cases hle2 : i' ≤ j'
            · have hle2i : (i' : Int) ≤ (j' : Int) := by omega
              have hle2k : ¬ (j' : Int) < (i' : Int) := by omega
              cases hlv2 : lessR dk[a]! dk[j']! with
              | true =>
                have HG := Lib.hid (scanDown_go (fun x => lessR dk[a]! x) dk i' j' hle2 (by omega) (by simp [hlv2]))
                have hl := E.lessAt S2 hs (a : Int) (j' : Int) (a) (j') (by omega) (by omega) (by omega) (by omega) hlv2
                clear hlv2
                go_wp2_with fail
                refine hl.mono ?_
                rintro e w6 ⟨rfl, hbw6⟩
                have S6 := S2.below hbw6
                clear hl hbw6 d0
                go_wp2
                go_roundw
                case rel => exact ⟨j' - 1, by congr 1; omega, by omega, by omega, S6, Lib.hid (HG.out.symm.trans hsd.out)⟩
                case measure => simp [intOf]; omega
              | false =>
                have hj2 := Lib.hid ((scanDown_end (fun x => lessR dk[a]! x) dk i' j' (Or.inr (by simp [hlv2]))).symm.trans hsd.out)
                have hl := E.lessAt S2 hs (a : Int) (j' : Int) (a) (j') (by omega) (by omega) (by omega) (by omega) hlv2
                clear hlv2
                go_wp2_with fail
                refine hl.mono ?_
                rintro e w6 ⟨rfl, hbw6⟩
                have S6 := S2.below hbw6
                clear hl hbw6 d0 hsd
                have hlt3 := scans_lt lessR a i j dk (by omega) hi2.out hj2.out hle2
                obtain ⟨w7, hsww7, S7⟩ := E.swapAt S6 hs (i' : Int) (j' : Int) (i') (j') (by omega) (by omega) (by omega) (by omega)
                have c1w7 := S6.c1
                have HG := Lib.hid (partEq_go lessR a i j dk hi2.out hj2.out (by omega))
                go_wp2
                go_roundw
                case rel => exact ⟨i' + 1, j' - 1, _, by go_num, by congr 1; omega, by omega, by omega, by omega, by rw [sz_swp]; exact hs, S7, HG.out.symm.trans AE.out⟩
                case measure => simp [intOf]; omega
            · have hle2i : ¬ (i' : Int) ≤ (j' : Int) := by omega
              have hle2k : (j' : Int) < (i' : Int) := by omega
              have hj2 := Lib.hid ((scanDown_end (fun x => lessR dk[a]! x) dk i' j' (Or.inl hle2)).symm.trans hsd.out)
              clear hsd
              have HG := Lib.hid (partEq_break lessR a i j dk hi2.out hj2.out (by omega))
              go_wp2
              go_ret
              exact ⟨by first | (unfold Sort.partitionEqual; rw [← AE.out, HG.out]; rfl) | (unfold Sort.partitionEqual; rw [← AE.out, HG.out]), by unfold Sort.partitionEqual; rw [← AE.out, HG.out]; exact S2.s⟩
      · have hlei : ¬ (i' : Int) ≤ (j : Int) := by omega
        have hi2 := Lib.hid ((scanUp_end (fun x => !lessR dk[a]! x) dk j i' (Or.inl hle)).symm.trans hsc.out)
        clear hsc c0
        go_wp2
        go_loopw [10] (fun vj w2 => ∃ (j' : Nat), vj = .int .i64 j' ∧ j' ≤ j ∧ i' ≤ j' + 1 ∧ SSt blk off w.heap.size (.func (.func g) #[] lb) (.func (.func sf) #[] sb) w w2 dk ∧ Hid (Sort.scanDown (fun x => lessR dk[a]! x) dk i' j' = Sort.scanDown (fun x => lessR dk[a]! x) dk i' j)) (fun vj _ => (intOf vj).toNat)
        case atStart => exact ⟨j, rfl, Nat.le_refl _, hij', S1, Lib.hid rfl⟩
        case round =>
          obtain ⟨j', rfl, hjj, hij2, S2, hsd⟩ := hrel
          clear S1
          have d0 := S2.c0
          by_cases hle2 : i' ≤ j'
          · exfalso; omega
          · have hle2i : ¬ (i' : Int) ≤ (j' : Int) := by omega
            have hle2k : (j' : Int) < (i' : Int) := by omega
            have hj2 := Lib.hid ((scanDown_end (fun x => lessR dk[a]! x) dk i' j' (Or.inl hle2)).symm.trans hsd.out)
            clear hsd
            have HG := Lib.hid (partEq_break lessR a i j dk hi2.out hj2.out (by omega))
            go_wp2
            go_ret
            exact ⟨by first | (unfold Sort.partitionEqual; rw [← AE.out, HG.out]; rfl) | (unfold Sort.partitionEqual; rw [← AE.out, HG.out]), by unfold Sort.partitionEqual; rw [← AE.out, HG.out]; exact S2.s⟩
set_option maxHeartbeats 12800000 in
set_option maxRecDepth 100000 in
theorem srt_part (g sf : Nat) (lb sb : Array Value) (blk off N : Nat) (a b pivot : Nat) (d : Array RecR) (w : World) (E : SEnv g sf lb sb blk off N w) (hH : Srt blk off w w d) (hN : d.size = N) (hap : a ≤ pivot) (hpb : pivot < b) (hb : b ≤ N) :
    Calls Tryd.prog 74 #[.agg #[.func (.func g) #[] lb, .func (.func sf) #[] sb], .int .i64 a, .int .i64 b, .int .i64 pivot] w fun e w' => e = .returned (.tuple #[.int .i64 (Sort.partition lessR d a b pivot).1, .bool (Sort.partition lessR d a b pivot).2.1]) ∧ Srt blk off w w' (Sort.partition lessR d a b pivot).2.2 := by
  have S0 : SSt blk off w.heap.size (.func (.func g) #[] lb) (.func (.func sf) #[] sb) w (w.alloc (.cells #[.func (.func g) #[] lb, .func (.func sf) #[] sb] 101)) d := SSt.start hH.hold hH.lt _
  have eg := E.eg
  have hbig := E.big
  obtain ⟨w1, hsw0, S⟩ := E.swapAt S0 hN (a : Int) (pivot : Int) a pivot rfl rfl (by omega) (by omega)
  obtain ⟨i, hi⟩ : ∃ i : Nat, i = a + 1 := ⟨_, rfl⟩
  obtain ⟨j, hj⟩ : ∃ j : Nat, j = b - 1 := ⟨_, rfl⟩
  obtain ⟨dk, hdk⟩ : ∃ dk : Array RecR, dk = Sort.swp d a pivot := ⟨_, rfl⟩
  have hs : dk.size = N := by rw [hdk, sz_swp]; exact hN
  have hai : a < i := by omega
  have hij : i ≤ j + 1 := by omega
  have hjb : j < b := by omega
  have Hi := Lib.hid hi
  have Hj := Lib.hid hj
  have Hdk := Lib.hid hdk
  rw [← hdk] at S
  clear hdk
  go_enter Tryd.func74, Tryd.ntmps74
  go_wp2
  rw [show ((a : Int) + 1) = (i : Int) by omega, show ((b : Int) - 1) = (j : Int) by omega]
  clear S0 hsw0 hi hj
  go_loopw [10] (fun vi w1 => ∃ (i' : Nat), vi = .int .i64 i' ∧ i ≤ i' ∧ i' ≤ j + 1 ∧ SSt blk off w.heap.size (.func (.func g) #[] lb) (.func (.func sf) #[] sb) w w1 dk ∧ Hid (Sort.scanUp (fun x => lessR x dk[a]!) dk j i' = Sort.scanUp (fun x => lessR x dk[a]!) dk j i)) (fun vi _ => j + 1 - (intOf vi).toNat)
  case atStart => exact ⟨i, rfl, Nat.le_refl _, hij, S, Lib.hid rfl⟩
  case round =>
    obtain ⟨i', rfl, hii, hij', S1, hsc⟩ := hrel
    clear S
    have c0 := S1.c0
    by_cases hle : i' ≤ j
    · have hlei : (i' : Int) ≤ (j : Int) := by omega
      cases hlv : lessR dk[i']! dk[a]! with
      | true =>
        have HG := Lib.hid (scanUp_go (fun x => lessR x dk[a]!) dk j i' hle (by simp [hlv]))
        have hl := E.lessAt S1 hs (i' : Int) (a : Int) (i') (a) (by omega) (by omega) (by omega) (by omega) hlv
        clear hlv
        go_wp2_with fail
        refine hl.mono ?_
        rintro e w5 ⟨rfl, hbw5⟩
        have S5 := S1.below hbw5
        clear hl hbw5 c0
        go_wp2
        go_roundw
        case rel => exact ⟨i' + 1, by go_num, by omega, by omega, S5, Lib.hid (HG.out.symm.trans hsc.out)⟩
        case measure => simp [intOf]; omega
      | false =>
        have hi2 := Lib.hid ((scanUp_end (fun x => lessR x dk[a]!) dk j i' (Or.inr (by simp [hlv]))).symm.trans hsc.out)
        have hl := E.lessAt S1 hs (i' : Int) (a : Int) (i') (a) (by omega) (by omega) (by omega) (by omega) hlv
        clear hlv
        go_wp2_with fail
        refine hl.mono ?_
        rintro e w5 ⟨rfl, hbw5⟩
        have S5 := S1.below hbw5
        clear hl hbw5 c0 hsc
        go_wp2
        go_loopw [11] (fun vj w2 => ∃ (j' : Nat), vj = .int .i64 j' ∧ j' ≤ j ∧ i' ≤ j' + 1 ∧ SSt blk off w.heap.size (.func (.func g) #[] lb) (.func (.func sf) #[] sb) w w2 dk ∧ Hid (Sort.scanDown (fun x => !lessR x dk[a]!) dk i' j' = Sort.scanDown (fun x => !lessR x dk[a]!) dk i' j)) (fun vj _ => (intOf vj).toNat)
        case atStart => exact ⟨j, rfl, Nat.le_refl _, hij', S5, Lib.hid rfl⟩
        case round =>
          obtain ⟨j', rfl, hjj, hij2, S2, hsd⟩ := hrel
          clear S5
          have d0 := S2.c0
          by_cases hle2 : i' ≤ j'
          · have hle2i : (i' : Int) ≤ (j' : Int) := by omega
            have hle2k : ¬ (j' : Int) < (i' : Int) := by omega
            cases hlv2 : lessR dk[j']! dk[a]! with
            | false =>
              have HG := Lib.hid (scanDown_go (fun x => !lessR x dk[a]!) dk i' j' hle2 (by omega) (by simp [hlv2]))
              have hl := E.lessAt S2 hs (j' : Int) (a : Int) (j') (a) (by omega) (by omega) (by omega) (by omega) hlv2
              clear hlv2
              go_wp2_with fail
              refine hl.mono ?_
              rintro e w6 ⟨rfl, hbw6⟩
              have S6 := S2.below hbw6
              clear hl hbw6 d0
              go_wp2
              go_roundw
              case rel => exact ⟨j' - 1, by congr 1; omega, by omega, by omega, S6, Lib.hid (HG.out.symm.trans hsd.out)⟩
              case measure => simp [intOf]; omega
            | true =>
              have hj2 := Lib.hid ((scanDown_end (fun x => !lessR x dk[a]!) dk i' j' (Or.inr (by simp [hlv2]))).symm.trans hsd.out)
              have hl := E.lessAt S2 hs (j' : Int) (a : Int) (j') (a) (by omega) (by omega) (by omega) (by omega) hlv2
              clear hlv2
              go_wp2_with fail
              refine hl.mono ?_
              rintro e w6 ⟨rfl, hbw6⟩
              have S6 := S2.below hbw6
              clear hl hbw6 d0 hsd
              have hlt3 := part_scans_lt lessR a i j dk (by omega) hi2.out hj2.out hle2
              obtain ⟨w7, hsww7, S7⟩ := E.swapAt S6 hs (i' : Int) (j' : Int) (i') (j') (by omega) (by omega) (by omega) (by omega)
              have c1w7 := S6.c1
              have PF := Lib.hid (part_first_go lessR d a b pivot Hi.out Hj.out Hdk.out hi2.out hj2.out (by omega))
              go_wp2
              rw [decide_eq_false (show ¬ j' < i' by omega)]
              have hs7 : (Sort.swp dk i' j').size = N := by rw [sz_swp]; exact hs
              generalize Sort.swp dk i' j' = D0 at *
              go_loopw [10, 11] (fun vi vj wr => ∃ (i j : Nat) (dk : Array RecR), vi = .int .i64 i ∧ vj = .int .i64 j ∧ a < i ∧ i ≤ j + 1 ∧ j < b ∧ dk.size = N ∧ SSt blk off w.heap.size (.func (.func g) #[] lb) (.func (.func sf) #[] sb) w wr dk ∧ Sort.partLoop lessR a i j dk = Sort.partLoop lessR a (i' + 1) (j' - 1) D0) (fun vi vj _ => (intOf vj).toNat + 1 - (intOf vi).toNat)
              case atStart => exact ⟨i' + 1, j' - 1, D0, by go_num, by congr 1; omega, by omega, by omega, by omega, hs7, S7, rfl⟩
              case round =>
                clear S7 hsww7 c1w7 S6 hi2 hj2 Hi Hj Hdk hs hs7
                obtain ⟨i, j, dk, rfl, rfl, hai, hij, hjb, hs, S, heq⟩ := hrel
                have AE := Lib.hid heq
                clear heq
                go_wp2
                go_loopw [10] (fun vi w1 => ∃ (i' : Nat), vi = .int .i64 i' ∧ i ≤ i' ∧ i' ≤ j + 1 ∧ SSt blk off w.heap.size (.func (.func g) #[] lb) (.func (.func sf) #[] sb) w w1 dk ∧ Hid (Sort.scanUp (fun x => lessR x dk[a]!) dk j i' = Sort.scanUp (fun x => lessR x dk[a]!) dk j i)) (fun vi _ => j + 1 - (intOf vi).toNat)
                case atStart => exact ⟨i, rfl, Nat.le_refl _, hij, S, Lib.hid rfl⟩
                case round =>
                  obtain ⟨i', rfl, hii, hij', S1, hsc⟩ := hrel
                  clear S
                  have c0 := S1.c0
                  by_cases hle : i' ≤ j
                  · have hlei : (i' : Int) ≤ (j : Int) := by omega
                    cases hlv : lessR dk[i']! dk[a]! with
                    | true =>
                      have HG := Lib.hid (scanUp_go (fun x => lessR x dk[a]!) dk j i' hle (by simp [hlv]))
                      have hl := E.lessAt S1 hs (i' : Int) (a : Int) (i') (a) (by omega) (by omega) (by omega) (by omega) hlv
                      clear hlv
                      go_wp2_with fail
                      refine hl.mono ?_
                      rintro e w5 ⟨rfl, hbw5⟩
                      have S5 := S1.below hbw5
                      clear hl hbw5 c0
                      go_wp2
                      go_roundw
                      case rel => exact ⟨i' + 1, by go_num, by omega, by omega, S5, Lib.hid (HG.out.symm.trans hsc.out)⟩
                      case measure => simp [intOf]; omega
                    | false =>
                      have hi2 := Lib.hid ((scanUp_end (fun x => lessR x dk[a]!) dk j i' (Or.inr (by simp [hlv]))).symm.trans hsc.out)
                      have hl := E.lessAt S1 hs (i' : Int) (a : Int) (i') (a) (by omega) (by omega) (by omega) (by omega) hlv
                      clear hlv
                      go_wp2_with fail
                      refine hl.mono ?_
                      rintro e w5 ⟨rfl, hbw5⟩
                      have S5 := S1.below hbw5
                      clear hl hbw5 c0 hsc
                      go_wp2
                      go_loopw [11] (fun vj w2 => ∃ (j' : Nat), vj = .int .i64 j' ∧ j' ≤ j ∧ i' ≤ j' + 1 ∧ SSt blk off w.heap.size (.func (.func g) #[] lb) (.func (.func sf) #[] sb) w w2 dk ∧ Hid (Sort.scanDown (fun x => !lessR x dk[a]!) dk i' j' = Sort.scanDown (fun x => !lessR x dk[a]!) dk i' j)) (fun vj _ => (intOf vj).toNat)
                      case atStart => exact ⟨j, rfl, Nat.le_refl _, hij', S5, Lib.hid rfl⟩
                      case round =>
                        obtain ⟨j', rfl, hjj, hij2, S2, hsd⟩ := hrel
                        clear S5
                        have d0 := S2.c0
                        by_cases hle2 : i' ≤ j'
                        · have hle2i : (i' : Int) ≤ (j' : Int) := by omega
                          have hle2k : ¬ (j' : Int) < (i' : Int) := by omega
                          cases hlv2 : lessR dk[j']! dk[a]! with
                          | false =>
                            have HG := Lib.hid (scanDown_go (fun x => !lessR x dk[a]!) dk i' j' hle2 (by omega) (by simp [hlv2]))
                            have hl := E.lessAt S2 hs (j' : Int) (a : Int) (j') (a) (by omega) (by omega) (by omega) (by omega) hlv2
                            clear hlv2
                            go_wp2_with fail
                            refine hl.mono ?_
                            rintro e w6 ⟨rfl, hbw6⟩
                            have S6 := S2.below hbw6
                            clear hl hbw6 d0
                            go_wp2
                            go_roundw
                            case rel => exact ⟨j' - 1, by congr 1; omega, by omega, by omega, S6, Lib.hid (HG.out.symm.trans hsd.out)⟩
                            case measure => simp [intOf]; omega
                          | true =>
                            have hj2 := Lib.hid ((scanDown_end (fun x => !lessR x dk[a]!) dk i' j' (Or.inr (by simp [hlv2]))).symm.trans hsd.out)
                            have hl := E.lessAt S2 hs (j' : Int) (a : Int) (j') (a) (by omega) (by omega) (by omega) (by omega) hlv2
                            clear hlv2
                            go_wp2_with fail
                            refine hl.mono ?_
                            rintro e w6 ⟨rfl, hbw6⟩
                            have S6 := S2.below hbw6
                            clear hl hbw6 d0 hsd
                            have hlt3 := part_scans_lt lessR a i j dk (by omega) hi2.out hj2.out hle2
                            obtain ⟨w7, hsww7, S7⟩ := E.swapAt S6 hs (i' : Int) (j' : Int) (i') (j') (by omega) (by omega) (by omega) (by omega)
                            have c1w7 := S6.c1
                            have HG := Lib.hid (part_go lessR a i j dk hi2.out hj2.out (by omega))
                            go_wp2
                            go_roundw
                            case rel => exact ⟨i' + 1, j' - 1, _, by go_num, by congr 1; omega, by omega, by omega, by omega, by rw [sz_swp]; exact hs, S7, HG.out.symm.trans AE.out⟩
                            case measure => simp [intOf]; omega
                        · have hle2i : ¬ (i' : Int) ≤ (j' : Int) := by omega
                          have hle2k : (j' : Int) < (i' : Int) := by omega
                          have hj2 := Lib.hid ((scanDown_end (fun x => !lessR x dk[a]!) dk i' j' (Or.inl hle2)).symm.trans hsd.out)
                          clear hsd
                          have HG := Lib.hid (part_break lessR a i j dk hi2.out hj2.out (by omega))
                          obtain ⟨w7, hsww7, S7⟩ := E.swapAt S2 hs (j' : Int) (a : Int) (j') (a) (by omega) (by omega) (by omega) (by omega)
                          have c1w7 := S2.c1
                          go_wp2
                          go_ret2
                          exact ⟨by first | (rw [PF.out, ← AE.out, HG.out]; rfl) | rw [PF.out, ← AE.out, HG.out], by rw [PF.out, ← AE.out, HG.out]; exact S7.s⟩
                  · have hlei : ¬ (i' : Int) ≤ (j : Int) := by omega
                    have hi2 := Lib.hid ((scanUp_end (fun x => lessR x dk[a]!) dk j i' (Or.inl hle)).symm.trans hsc.out)
                    clear hsc c0
                    go_wp2
                    go_loopw [11] (fun vj w2 => ∃ (j' : Nat), vj = .int .i64 j' ∧ j' ≤ j ∧ i' ≤ j' + 1 ∧ SSt blk off w.heap.size (.func (.func g) #[] lb) (.func (.func sf) #[] sb) w w2 dk ∧ Hid (Sort.scanDown (fun x => !lessR x dk[a]!) dk i' j' = Sort.scanDown (fun x => !lessR x dk[a]!) dk i' j)) (fun vj _ => (intOf vj).toNat)
                    case atStart => exact ⟨j, rfl, Nat.le_refl _, hij', S1, Lib.hid rfl⟩
                    case round =>
                      obtain ⟨j', rfl, hjj, hij2, S2, hsd⟩ := hrel
                      clear S1
                      have d0 := S2.c0
                      by_cases hle2 : i' ≤ j'
                      · exfalso; omega
                      · have hle2i : ¬ (i' : Int) ≤ (j' : Int) := by omega
                        have hle2k : (j' : Int) < (i' : Int) := by omega
                        have hj2 := Lib.hid ((scanDown_end (fun x => !lessR x dk[a]!) dk i' j' (Or.inl hle2)).symm.trans hsd.out)
                        clear hsd
                        have HG := Lib.hid (part_break lessR a i j dk hi2.out hj2.out (by omega))
                        obtain ⟨w7, hsww7, S7⟩ := E.swapAt S2 hs (j' : Int) (a : Int) (j') (a) (by omega) (by omega) (by omega) (by omega)
                        have c1w7 := S2.c1
                        go_wp2
                        go_ret2
                        exact ⟨by first | (rw [PF.out, ← AE.out, HG.out]; rfl) | rw [PF.out, ← AE.out, HG.out], by rw [PF.out, ← AE.out, HG.out]; exact S7.s⟩
          · have hle2i : ¬ (i' : Int) ≤ (j' : Int) := by omega
            have hle2k : (j' : Int) < (i' : Int) := by omega
            have hj2 := Lib.hid ((scanDown_end (fun x => !lessR x dk[a]!) dk i' j' (Or.inl hle2)).symm.trans hsd.out)
            clear hsd
            have PF := Lib.hid (part_first_break lessR d a b pivot Hi.out Hj.out Hdk.out hi2.out hj2.out (by omega))
            obtain ⟨w7, hsww7, S7⟩ := E.swapAt S2 hs (j' : Int) (a : Int) (j') (a) (by omega) (by omega) (by omega) (by omega)
            have c1w7 := S2.c1
            go_wp2
            go_ret2
            exact ⟨by first | (rw [PF.out]; rfl) | rw [PF.out], by rw [PF.out]; exact S7.s⟩
    · have hlei : ¬ (i' : Int) ≤ (j : Int) := by omega
      have hi2 := Lib.hid ((scanUp_end (fun x => lessR x dk[a]!) dk j i' (Or.inl hle)).symm.trans hsc.out)
      clear hsc c0
      go_wp2
      go_loopw [11] (fun vj w2 => ∃ (j' : Nat), vj = .int .i64 j' ∧ j' ≤ j ∧ i' ≤ j' + 1 ∧ SSt blk off w.heap.size (.func (.func g) #[] lb) (.func (.func sf) #[] sb) w w2 dk ∧ Hid (Sort.scanDown (fun x => !lessR x dk[a]!) dk i' j' = Sort.scanDown (fun x => !lessR x dk[a]!) dk i' j)) (fun vj _ => (intOf vj).toNat)
      case atStart => exact ⟨j, rfl, Nat.le_refl _, hij', S1, Lib.hid rfl⟩
      case round =>
        obtain ⟨j', rfl, hjj, hij2, S2, hsd⟩ := hrel
        clear S1
        have d0 := S2.c0
        by_cases hle2 : i' ≤ j'
        · exfalso; omega
        · have hle2i : ¬ (i' : Int) ≤ (j' : Int) := by omega
          have hle2k : (j' : Int) < (i' : Int) := by omega
          have hj2 := Lib.hid ((scanDown_end (fun x => !lessR x dk[a]!) dk i' j' (Or.inl hle2)).symm.trans hsd.out)
          clear hsd
          have PF := Lib.hid (part_first_break lessR d a b pivot Hi.out Hj.out Hdk.out hi2.out hj2.out (by omega))
          obtain ⟨w7, hsww7, S7⟩ := E.swapAt S2 hs (j' : Int) (a : Int) (j') (a) (by omega) (by omega) (by omega) (by omega)
          have c1w7 := S2.c1
          go_wp2
          go_ret2
          exact ⟨by first | (rw [PF.out]; rfl) | rw [PF.out], by rw [PF.out]; exact S7.s⟩
end Go.Proofs.YthffmjeodoinlaaDoor

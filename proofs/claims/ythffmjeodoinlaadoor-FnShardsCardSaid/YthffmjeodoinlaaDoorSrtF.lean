/- pdqsort_func over a row of Rec; sort.Slice. -/
import Derived.Test.YthffmjeodoinlaaDoorSrtA
import Derived.Test.YthffmjeodoinlaaDoorSrtB
import Derived.Test.YthffmjeodoinlaaDoorSrtC
import Derived.Test.YthffmjeodoinlaaDoorSrtD
import Derived.Test.YthffmjeodoinlaaDoorSrtE
import Derived.Test.YthffmjeodoinlaaDoorSrtL
import Derived.Shelf.SlSortFuncK.ComposeK
import Derived.Shelf.SlSortFuncK.BreakPatternsK
import Derived.Sort.Walk13a
import Derived.Sort.AssemblyPlain
import Derived.Deep.Cut
namespace Go.Proofs.YthffmjeodoinlaaDoor
open Go.RowKit Go.Lib
theorem win_world {w : World} {blk off n : Nat} {d : Array RecR} {os : Array Obj} : Win blk (blk + 1) w (sortWorldK encRec 3 w blk off n d os) := by
  unfold sortWorldK Sort.putRowK Sort.putRow Sort.mapBlock
  refine ⟨rfl, rfl, rfl, by simp [Sort.ahead], fun k hk hkk => ?_⟩
  rw [Sort.heap_grow_old _ _ (by simpa [Sort.ahead] using hk)]
  show (w.heap.modify blk _)[k]? = _
  rw [Array.getElem?_modify, if_neg (by omega)]
theorem srt_world {w w' : World} {blk off n : Nat} {d d' : Array RecR} {os : Array Obj} (S : Srt blk off w w d) (hs : d'.size = d.size) (h : w' = sortWorldK encRec 3 w blk off n d' os) : Srt blk off w w' d' := by
  subst h
  refine ⟨holdsK_sortWorldK encRec 3 w blk off n d d' os S.lt S.hold hs, win_world, S.lt, ?_⟩
  unfold sortWorldK Sort.putRowK Sort.putRow
  refine (SameForm.map (Sort.ahead w n) blk _ (fun c => by simp [Sort.putCells])).trans (SameForm.of_block (Sort.heap_grow_old _ _ ?_))
  have := S.lt
  simpa [Sort.mapBlock, Sort.ahead] using this
theorem swo_less : Sort.SWO lessR := by
  refine ⟨fun x => ?_, fun x y z h1 h2 => ?_, fun x y z h1 h2 => ?_⟩
  · unfold lessR lessB
    simp
  · unfold lessR lessB at *
    repeat' split at h1
    all_goals repeat' split at h2
    all_goals repeat' split
    all_goals simp only [decide_eq_true_eq] at *
    all_goals omega
  · unfold lessR lessB at *
    repeat' split at h1
    all_goals repeat' split at h2
    all_goals repeat' split
    all_goals simp only [decide_eq_false_iff_not] at *
    all_goals omega
theorem eighth' {x y p q : Nat} (h1 : q ≤ p) (h2 : y ≤ x) : decide (((x : Int) - (y : Int)) / 8 ≤ (p : Int) - (q : Int)) = decide (p - q ≥ (x - y) / 8) := by
  by_cases h : p - q ≥ (x - y) / 8
  · rw [decide_eq_true h, decide_eq_true (by omega)]
  · rw [decide_eq_false h, decide_eq_false (by omega)]
theorem pdq_sorts' (d : Array RecR) (a b limit : Nat) (wb wp : Bool) (hab : a ≤ b) (hb : b ≤ d.size) (hB : Sort.Below lessR a b d) : Sort.PermIn a b d (Sort.pdq lessR d a b limit wb wp) ∧ Sort.SortedIn lessR a b (Sort.pdq lessR d a b limit wb wp) := Sort.pdq_sorts lessR swo_less d a b limit wb wp hab hb hB
theorem hint_two {h : Sort.Hint} (e : Sort.hintCode h = 2) : h = .decreasing := by cases h <;> simp [Sort.hintCode] at e ⊢
set_option maxHeartbeats 12800000 in
set_option maxRecDepth 1000000 in
theorem srt_pdq (g sf : Nat) (lb sb : Array Value) (blk off N : Nat) : ∀ (M a b limit : Nat) (d : Array RecR) (w : World), b - a < M → SEnv g sf lb sb blk off N w → Srt blk off w w d → d.size = N → a ≤ b → b ≤ N → limit < 4611686018427387904 → Sort.Below lessR a b d →
    Calls Tryd.prog 49 #[.agg #[.func (.func g) #[] lb, .func (.func sf) #[] sb], .int .i64 a, .int .i64 b, .int .i64 limit] w fun e w' => e = .returned (.tuple #[]) ∧ Srt blk off w w' (Sort.pdq lessR d a b limit true true) := by
  intro M
  induction M with
  | zero => intro _ _ _ _ _ h; exact absurd h (Nat.not_lt_zero _)
  | succ M ih =>
    intro a b limit d w hM E hH hN hab hb hlimit hBel0
    have S0 : SSt blk off w.heap.size (.func (.func g) #[] lb) (.func (.func sf) #[] sb) w (w.alloc (.cells #[.func (.func g) #[] lb, .func (.func sf) #[] sb] 101)) d := SSt.start hH.hold hH.lt _
    have eg := E.eg
    have hbig := E.big
    go_enter Tryd.func49, Tryd.ntmps49
    go_wp2
    go_loopg [1, 2, 3, 8, 9] (b - a) (fun kx s1 s2 s3 s8 s9 wr => ∃ (a' b' lim : Nat) (wb wp : Bool) (dk : Array RecR), s1 = .int .i64 a' ∧ s2 = .int .i64 b' ∧ s3 = .int .i64 lim ∧ s8 = .bool wb ∧ s9 = .bool wp ∧
      a' ≤ b' ∧ b' ≤ N ∧ b' - a' ≤ kx ∧ kx ≤ b - a ∧ lim ≤ limit ∧ dk.size = N ∧ Hid (Sort.Below lessR a' b' dk) ∧ SSt blk off w.heap.size (.func (.func g) #[] lb) (.func (.func sf) #[] sb) w wr dk ∧ Hid (Sort.pdq lessR dk a' b' lim wb wp = Sort.pdq lessR d a b limit true true))
    case atStart => exact ⟨a, b, limit, true, true, d, rfl, rfl, rfl, rfl, rfl, hab, hb, Nat.le_refl _, Nat.le_refl _, Nat.le_refl _, hN, Lib.hid hBel0, S0, Lib.hid rfl⟩
    case round =>
      obtain ⟨a', b', lim, wb, wp, dk, rfl, rfl, rfl, rfl, rfl, hab', hb', hkx, hkN, hlim, hds, hBel, S, A⟩ := hrel
      clear S0
      by_cases h12 : b' - a' ≤ 12
      · have h12z : (b' : Int) - (a' : Int) ≤ 12 := by omega
        have hc := srt_insertion g sf lb sb blk off N a' b' dk wr (E.later S.s) (Srt.start S.s.hold S.s.ltr) hds hab' hb'
        have c0 := S.c0
        have c1 := S.c1
        go_wp2_with fail
        refine hc.mono ?_
        rintro e w1 ⟨rfl, T⟩
        clear c0 c1
        go_wp2
        (try simp only [Exit.inBlock, Exit.then])
        refine bodyPost_ret (results_none rfl _ _ _) rfl ?_
        exact ⟨rfl, by rw [← A.out, Sort.pdq_small h12]; exact (S.call T).s⟩
      · have h12z : ¬ ((b' : Int) - (a' : Int) ≤ 12) := by omega
        by_cases hl0 : lim = 0
        · subst hl0
          have hc := srt_heap g sf lb sb blk off N a' b' dk wr (E.later S.s) (Srt.start S.s.hold S.s.ltr) hds hab' hb'
          have c0 := S.c0
          have c1 := S.c1
          go_wp2_with fail
          refine hc.mono ?_
          rintro e w1 ⟨rfl, T⟩
          clear c0 c1
          go_wp2
          (try simp only [Exit.inBlock, Exit.then])
          refine bodyPost_ret (results_none rfl _ _ _) rfl ?_
          exact ⟨rfl, by rw [← A.out, Sort.pdq_heap h12 rfl]; exact (S.call T).s⟩
        · have hl0z : ¬ ((lim : Int) = 0) := by omega
          obtain ⟨s1, B1, hc1, s2, B2, hpv, s3, B3⟩ := Sort.rd_facts (lt := lessR) (limit := lim) (wb := wb) (wp := wp) swo_less Sort.partialInsertionSort_holds Sort.reverseRange_holds (show a' < b' by omega) (show b' ≤ dk.size by omega) hBel.out
          have X3 := Lib.hid B3
          have hlr : (Sort.rd lessR dk a' b' lim wb wp).lim ≤ lim := Sort.rd_lim_le
          clear B1 B2 B3
          have c0 := S.c0
          have c1 := S.c1
          go_upto_if 35 with fail
          go_cut [3] from 19 (fun s3 wc => s3 = .int .i64 (Sort.rd lessR dk a' b' lim wb wp).lim ∧ SSt blk off w.heap.size (.func (.func g) #[] lb) (.func (.func sf) #[] sb) w wc (Sort.rd lessR dk a' b' lim wb wp).d1)
          case first =>
            cases wb
            · have hc := Any.breakPatterns_func_cells_w (P := Tryd.prog) (ρ := Tryd.sl6_ren) { Tryd.sl6 with } encRec 3 (fun _ => rfl) (.func g) #[] lb sf sb blk off a' b' dk wr (by rw [hds]; exact E.swap) S.s.hold S.s.ltr hab' (by omega) (by omega)
              change Calls Tryd.prog 69 _ _ _ at hc
              go_wp2_with fail
              refine hc.mono ?_
              rintro e w1 ⟨rfl, n1, os1, hw1⟩
              have T := S.call (srt_world (Srt.start S.s.hold S.s.ltr) s1 hw1)
              clear hw1 c0 c1
              go_wp2_with fail
              go_meet
              case rel =>
                refine ⟨?_, T⟩
                show Value.int .i64 ((lim : Int) - 1) = Value.int .i64 ((lim - 1 : Nat) : Int)
                congr 1
                omega
            · go_wp2_with fail
              go_meet
              case rel => exact ⟨rfl, S⟩
          case rest =>
            obtain ⟨rfl, S1⟩ := hcut
            clear c0 c1
            have hq : Calls Tryd.prog 70 #[.agg #[.func (.func g) #[] lb, .func (.func sf) #[] sb], .int .i64 a', .int .i64 b'] wc fun e w' => e = .returned (.tuple #[.int .i64 (Sort.rd lessR dk a' b' lim wb wp).c.1, .int .i64 (Sort.hintCode (Sort.rd lessR dk a' b' lim wb wp).c.2)]) ∧ Below wc.heap.size wc w' :=
              srt_choose g sf lb sb blk off N a' b' (Sort.rd lessR dk a' b' lim wb wp).d1 wc (E.later S1.s) (Srt.start S1.s.hold S1.s.ltr) (s1.trans hds) (by omega) hb'
            have c0 := S1.c0
            have c1 := S1.c1
            go_wp2_with fail
            refine hq.mono ?_
            rintro e w2 ⟨rfl, hb2⟩
            go_upto_if 50 with fail
            have S2 := S1.below hb2
            clear c0 c1 hb2
            have c0 := S2.c0
            have c1 := S2.c1
            go_cut [11, 12] from 19 (fun s11 s12 wc => s11 = .int .i64 (Sort.rd lessR dk a' b' lim wb wp).pivot ∧ s12 = .int .i64 (Sort.hintCode (Sort.rd lessR dk a' b' lim wb wp).hint) ∧ SSt blk off w.heap.size (.func (.func g) #[] lb) (.func (.func sf) #[] sb) w wc (Sort.rd lessR dk a' b' lim wb wp).d2)
            case first =>
              by_cases hh : (Sort.rd lessR dk a' b' lim wb wp).c.2 = .decreasing
              · have hcode : Sort.hintCode (Sort.rd lessR dk a' b' lim wb wp).c.2 = 2 := by rw [hh]; rfl
                obtain ⟨e2, epv, eht⟩ := Sort.rd_dec hh
                have hc18 := Any.reverseRange_func_cells_w (P := Tryd.prog) (ρ := Tryd.sl6_ren) { Tryd.sl6 with } encRec 3 (fun _ => rfl) (.func g) #[] lb sf sb blk off a' b' (Sort.rd lessR dk a' b' lim wb wp).d1 w2 (by rw [s1, hds]; exact E.swap) S2.s.hold S2.s.ltr hab' (by omega) (by omega)
                change Calls Tryd.prog 71 _ _ _ at hc18
                go_wp2_with fail
                refine hc18.mono ?_
                rintro e w3 ⟨rfl, n3, os3, hw3⟩
                have T := S2.call (srt_world (Srt.start S2.s.hold S2.s.ltr) (by rw [← e2, s2, s1]) hw3)
                clear hw3 c0 c1
                go_wp2_with fail
                go_meet
                case rel => exact ⟨by rw [epv]; congr 1; omega, by rw [eht]; rfl, by rw [e2]; exact T⟩
              · have hcode : ¬ (Sort.hintCode (Sort.rd lessR dk a' b' lim wb wp).c.2 = 2) := fun h => hh (hint_two h)
                obtain ⟨e2, epv, eht⟩ := Sort.rd_not hh
                go_wp2_with fail
                go_meet
                case rel => exact ⟨by rw [epv], by rw [eht], by rw [e2]; exact S2⟩
            case rest =>
              obtain ⟨rfl, rfl, S3⟩ := hcut
              clear c0 c1
              have c0 := S3.c0
              have c1 := S3.c1
              go_upto_region 16 with fail
              go_cut [12, 68] from 19 (fun s12 s68 wx => s12 = .int .i64 (Sort.hintCode (Sort.rd lessR dk a' b' lim wb wp).hint) ∧ s68 = .bool (wb && wp && decide ((Sort.rd lessR dk a' b' lim wb wp).hint = .increasing)) ∧ wx = wc)
              case first =>
                cases wb <;> cases wp <;> cases hh3 : (Sort.rd lessR dk a' b' lim _ _).hint <;>
                  (have hcode3 := congrArg Sort.hintCode hh3
                   simp only [Sort.hintCode] at hcode3
                   go_wp2_with fail
                   go_meet
                   exact ⟨by simp [hh3, Sort.hintCode], by simp [hh3, Sort.hintCode], rfl⟩)
              case rest =>
                obtain ⟨rfl, rfl, rfl⟩ := hcut
                go_upto_if 68 with fail
                go_cut [] from 19 (fun wx => (Sort.rd lessR dk a' b' lim wb wp).pi.2 = false ∧ SSt blk off w.heap.size (.func (.func g) #[] lb) (.func (.func sf) #[] sb) w wx (Sort.rd lessR dk a' b' lim wb wp).pi.1)
                case first =>
                  cases h68 : (wb && wp && decide ((Sort.rd lessR dk a' b' lim wb wp).hint = .increasing))
                  · have epi := Sort.rd_pi_no h68
                    go_wp2_with fail
                    go_meet
                    case rel => exact ⟨by rw [epi], by rw [epi]; exact S3⟩
                  · have epi := Sort.rd_pi_yes h68
                    have hc19 := srt_partial g sf lb sb blk off N a' b' (Sort.rd lessR dk a' b' lim wb wp).d2 wc (E.later S3.s) (Srt.start S3.s.hold S3.s.ltr) (s2.trans hds) (by omega) hb'
                    rw [← epi] at hc19
                    cases hp2 : (Sort.rd lessR dk a' b' lim wb wp).pi.2
                    · rw [hp2] at hc19
                      go_wp2_with fail
                      refine hc19.mono ?_
                      rintro e w4 ⟨rfl, T⟩
                      have S4 := S3.call T
                      clear c0 c1
                      go_wp2_with fail
                      go_meet
                      case rel => exact ⟨hp2, S4⟩
                    · rw [hp2] at hc19
                      go_wp2_with fail
                      refine hc19.mono ?_
                      rintro e w4 ⟨rfl, T⟩
                      have S4 := S3.call T
                      clear c0 c1
                      go_wp2
                      (try simp only [Exit.inBlock, Exit.then])
                      refine bodyPost_ret (results_none rfl _ _ _) rfl ?_
                      exact ⟨rfl, by rw [← A.out, Sort.pdq_done h12 hl0 hp2]; exact S4.s⟩
                case rest =>
                  obtain ⟨hp2, S5⟩ := hcut
                  clear c0 c1
                  have c0 := S5.c0
                  have c1 := S5.c1
                  go_upto_region 18 with fail
                  go_cut [83] from 19 (fun s83 wx => s83 = .bool (decide (a' > 0) && !lessR (Sort.rd lessR dk a' b' lim wb wp).pi.1[a' - 1]! (Sort.rd lessR dk a' b' lim wb wp).pi.1[(Sort.rd lessR dk a' b' lim wb wp).pivot]!) ∧ SSt blk off w.heap.size (.func (.func g) #[] lb) (.func (.func sf) #[] sb) w wx (Sort.rd lessR dk a' b' lim wb wp).pi.1)
                  case first =>
                    rcases Nat.eq_zero_or_pos a' with ha0 | ha0
                    · have ha0z : decide ((a' : Int) > 0) = false := decide_eq_false (by omega)
                      go_wp2_with fail
                      go_meet
                      case rel => exact ⟨by simp [ha0], S5⟩
                    · have ha0z : (a' : Int) > 0 := by omega
                      cases hlv : lessR (Sort.rd lessR dk a' b' lim wb wp).pi.1[a' - 1]! (Sort.rd lessR dk a' b' lim wb wp).pi.1[(Sort.rd lessR dk a' b' lim wb wp).pivot]! <;>
                        (have hl := E.lessAt S5 (s3.trans hds) ((a' : Int) - 1) ((Sort.rd lessR dk a' b' lim wb wp).pivot : Int) (a' - 1) (Sort.rd lessR dk a' b' lim wb wp).pivot (by omega) rfl (by omega) (by omega) hlv
                         go_wp2_with fail
                         refine hl.mono ?_
                         rintro e w6 ⟨rfl, hb6⟩
                         have S6 := S5.below hb6
                         clear c0 c1 hb6
                         go_wp2_with fail
                         go_meet
                         exact ⟨by simp [ha0, hlv], S6⟩)
                  case rest =>
                    obtain ⟨rfl, S6⟩ := hcut
                    clear c0 c1
                    have c0 := S6.c0
                    have c1 := S6.c1
                    cases h87 : (decide (a' > 0) && !lessR (Sort.rd lessR dk a' b' lim wb wp).pi.1[a' - 1]! (Sort.rd lessR dk a' b' lim wb wp).pi.1[(Sort.rd lessR dk a' b' lim wb wp).pivot]!)
                    · obtain ⟨mid, ap, d4, hx⟩ : ∃ mid ap d4, Sort.partition lessR (Sort.rd lessR dk a' b' lim wb wp).pi.1 a' b' (Sort.rd lessR dk a' b' lim wb wp).pivot = (mid, ap, d4) := ⟨(Sort.partition lessR (Sort.rd lessR dk a' b' lim wb wp).pi.1 a' b' (Sort.rd lessR dk a' b' lim wb wp).pivot).1, (Sort.partition lessR (Sort.rd lessR dk a' b' lim wb wp).pi.1 a' b' (Sort.rd lessR dk a' b' lim wb wp).pivot).2.1, (Sort.partition lessR (Sort.rd lessR dk a' b' lim wb wp).pi.1 a' b' (Sort.rd lessR dk a' b' lim wb wp).pivot).2.2, rfl⟩
                      obtain ⟨r1, r2, r3, r4, r5, r6, r7⟩ := Sort.round_part swo_less (Sort.partition_holds lessR) hpv.1 hpv.2 (show b' ≤ (Sort.rd lessR dk a' b' lim wb wp).pi.1.size by omega) X3.out hx
                      have hc22 := srt_part g sf lb sb blk off N a' b' (Sort.rd lessR dk a' b' lim wb wp).pivot (Sort.rd lessR dk a' b' lim wb wp).pi.1 wc (E.later S6.s) (Srt.start S6.s.hold S6.s.ltr) (s3.trans hds) hpv.1 hpv.2 hb'
                      rw [hx] at hc22
                      have X := Lib.hid hx
                      clear hx
                      go_wp2_with fail
                      refine hc22.mono ?_
                      rintro e w7 ⟨rfl, T⟩
                      go_upto_if 109 with fail
                      have hs4 : d4.size = N := r3.trans (s3.trans hds)
                      have S7 := S6.call T
                      clear c0 c1
                      have c0 := S7.c0
                      have c1 := S7.c1
                      by_cases h4 : mid - a' < b' - mid
                      · have h4z : (mid : Int) - (a' : Int) < (b' : Int) - (mid : Int) := by omega
                        have hih := ih a' mid (Sort.rd lessR dk a' b' lim wb wp).lim d4 w7 (by omega) (E.later S7.s) (Srt.start S7.s.hold S7.s.ltr) hs4 (by omega) (by omega) (by omega) r4
                        obtain ⟨pL, sL⟩ := pdq_sorts' d4 a' mid (Sort.rd lessR dk a' b' lim wb wp).lim true true (by omega) (by omega) r4
                        have R6 := Lib.hid (r6 _ pL sL).1
                        have HP : Hid _ := Lib.hid (Sort.pdq_left h12 hl0 hp2 h87 (by rw [X.out]; exact ⟨r1, r2⟩) (by rw [X.out]; exact h4))
                        rw [X.out] at HP
                        clear r4 r5 r6 r7 sL
                        go_wp2_with fail
                        refine hih.mono ?_
                        rintro e w8 ⟨rfl, T8⟩
                        have S8 := S7.call T8
                        clear c0 c1 hih
                        go_wp2
                        go_roundg (b' - (mid + 1))
                        case measure => omega
                        case rel =>
                          exact ⟨mid + 1, b', (Sort.rd lessR dk a' b' lim wb wp).lim, decide (mid - a' ≥ (b' - a') / 8), ap, Sort.pdq lessR d4 a' mid (Sort.rd lessR dk a' b' lim wb wp).lim true true, by simp, rfl, rfl, congrArg Value.bool (eighth' (by omega) (by omega)), rfl, by omega, by omega, Nat.le_refl _, by omega, Nat.le_trans hlr hlim, by rw [pL.1, hs4], R6, S8, Lib.hid (HP.out.symm.trans A.out)⟩
                      · have h4z : ¬ ((mid : Int) - (a' : Int) < (b' : Int) - (mid : Int)) := by omega
                        have hih := ih (mid + 1) b' (Sort.rd lessR dk a' b' lim wb wp).lim d4 w7 (by omega) (E.later S7.s) (Srt.start S7.s.hold S7.s.ltr) hs4 (by omega) (by omega) (by omega) r5
                        rw [show ((mid + 1 : Nat) : Int) = (mid : Int) + 1 by omega] at hih
                        obtain ⟨pL, sL⟩ := pdq_sorts' d4 (mid + 1) b' (Sort.rd lessR dk a' b' lim wb wp).lim true true (by omega) (by omega) r5
                        have R7 := Lib.hid (r7 _ pL sL).1
                        have HP : Hid _ := Lib.hid (Sort.pdq_right h12 hl0 hp2 h87 (by rw [X.out]; exact ⟨r1, r2⟩) (by rw [X.out]; exact h4))
                        rw [X.out] at HP
                        clear r4 r5 r6 r7 sL
                        go_wp2_with fail
                        refine hih.mono ?_
                        rintro e w8 ⟨rfl, T8⟩
                        have S8 := S7.call T8
                        clear c0 c1 hih
                        go_wp2
                        go_roundg (mid - a')
                        case measure => omega
                        case rel =>
                          exact ⟨a', mid, (Sort.rd lessR dk a' b' lim wb wp).lim, decide (b' - mid ≥ (b' - a') / 8), ap, Sort.pdq lessR d4 (mid + 1) b' (Sort.rd lessR dk a' b' lim wb wp).lim true true, rfl, rfl, rfl, congrArg Value.bool (eighth' (by omega) (by omega)), rfl, by omega, by omega, Nat.le_refl _, by omega, Nat.le_trans hlr hlim, by rw [pL.1, hs4], R7, S8, Lib.hid (HP.out.symm.trans A.out)⟩
                    · have h87' := h87
                      simp only [Bool.and_eq_true, decide_eq_true_eq, Bool.not_eq_true'] at h87'
                      obtain ⟨mid, d4, hx⟩ : ∃ mid d4, Sort.partitionEqual lessR (Sort.rd lessR dk a' b' lim wb wp).pi.1 a' b' (Sort.rd lessR dk a' b' lim wb wp).pivot = (mid, d4) := ⟨(Sort.partitionEqual lessR (Sort.rd lessR dk a' b' lim wb wp).pi.1 a' b' (Sort.rd lessR dk a' b' lim wb wp).pivot).1, (Sort.partitionEqual lessR (Sort.rd lessR dk a' b' lim wb wp).pi.1 a' b' (Sort.rd lessR dk a' b' lim wb wp).pivot).2, rfl⟩
                      obtain ⟨r1, r2, r3, r4, _⟩ := Sort.round_eq swo_less (Sort.partitionEqual_holds lessR) h87'.1 hpv.1 hpv.2 (show b' ≤ (Sort.rd lessR dk a' b' lim wb wp).pi.1.size by omega) X3.out h87'.2 hx
                      have hc21 := srt_parteq g sf lb sb blk off N a' b' (Sort.rd lessR dk a' b' lim wb wp).pivot (Sort.rd lessR dk a' b' lim wb wp).pi.1 wc (E.later S6.s) (Srt.start S6.s.hold S6.s.ltr) (s3.trans hds) hpv.1 hpv.2 hb'
                      rw [hx] at hc21
                      have HP : Hid _ := Lib.hid (Sort.pdq_eq h12 hl0 hp2 h87 (by rw [hx]; exact ⟨r1, r2⟩))
                      rw [hx] at HP
                      have R4 := Lib.hid r4
                      clear hx r4
                      go_wp2_with fail
                      refine hc21.mono ?_
                      rintro e w7 ⟨rfl, T⟩
                      have S7 := S6.call T
                      clear c0 c1
                      go_wp2
                      go_roundg (b' - mid)
                      case measure => omega
                      case rel => exact ⟨mid, b', (Sort.rd lessR dk a' b' lim wb wp).lim, wb, wp, d4, rfl, rfl, rfl, rfl, rfl, r2, hb', Nat.le_refl _, by omega, Nat.le_trans hlr hlim, by rw [r3, s3, hds], R4, S7, Lib.hid (HP.out.symm.trans A.out)⟩
end Go.Proofs.YthffmjeodoinlaaDoor

/- siftDown_func and heapSort_func over a row of Rec. -/
import Derived.Test.YthffmjeodoinlaaDoorSrt
import Derived.Sort.WalkB3
namespace Go.Proofs.YthffmjeodoinlaaDoor
open Go.RowKit Go.Lib
set_option maxHeartbeats 4000000 in
set_option maxRecDepth 100000 in
theorem srt_sift (g sf : Nat) (lb sb : Array Value) (blk off N : Nat) (lo hi first : Nat) (d : Array RecR) (w : World) (E : SEnv g sf lb sb blk off N w) (hH : Srt blk off w w d) (hN : d.size = N) (hlo : lo ≤ hi) (hb : first + hi ≤ N) :
    Calls Tryd.prog 79 #[.agg #[.func (.func g) #[] lb, .func (.func sf) #[] sb], .int .i64 lo, .int .i64 hi, .int .i64 first] w fun e w' => e = .returned (.tuple #[]) ∧ Srt blk off w w' (Sort.siftDown lessR hi first lo d) := by
  have S0 : SSt blk off w.heap.size (.func (.func g) #[] lb) (.func (.func sf) #[] sb) w (w.alloc (.cells #[.func (.func g) #[] lb, .func (.func sf) #[] sb] 101)) d := SSt.start hH.hold hH.lt _
  have eg := E.eg
  have hbig := E.big
  go_enter Tryd.func79, Tryd.ntmps79
  go_wp2
  go_loopw [8] (fun s8 wr => ∃ (root : Nat) (dk : Array RecR), s8 = .int .i64 root ∧ root ≤ hi ∧ dk.size = N ∧ SSt blk off w.heap.size (.func (.func g) #[] lb) (.func (.func sf) #[] sb) w wr dk ∧ Hid (Sort.siftDown lessR hi first root dk = Sort.siftDown lessR hi first lo d)) (fun s8 _ => hi - (intOf s8).toNat)
  case atStart => exact ⟨lo, d, rfl, hlo, hN, S0, Lib.hid rfl⟩
  case round =>
    obtain ⟨root, dk, rfl, hr, hds, S, HE⟩ := hrel
    clear S0
    have c0 := S.c0
    by_cases h0 : hi ≤ 2 * root + 1
    · have h0z : (hi : Int) ≤ 2 * (root : Int) + 1 := by omega
      go_wp2
      go_end0
      exact ⟨rfl, by rw [← HE.out, Sort.sd_end lessR dk h0]; exact S.s⟩
    · have h0z : ¬ ((hi : Int) ≤ 2 * (root : Int) + 1) := by omega
      by_cases h1 : 2 * root + 2 < hi
      · have h1z : 2 * (root : Int) + 1 + 1 < (hi : Int) := by omega
        cases hL : lessR dk[first + (2 * root + 1)]! dk[first + (2 * root + 2)]! with
        | true =>
          have HL := Lib.hid hL
          have hl := E.lessAt S hds ((first : Int) + (2 * (root : Int) + 1)) ((first : Int) + (2 * (root : Int) + 1) + 1) (first + (2 * root + 1)) (first + (2 * root + 2)) (by omega) (by omega) (by omega) (by omega) hL
          clear hL
          go_wp2_with fail
          refine hl.mono ?_
          rintro e w5 ⟨rfl, hbw5⟩
          have S5 := S.below hbw5
          clear hl hbw5 c0
          cases hG : lessR dk[first + root]! dk[first + (2 * root + 2)]! with
          | true =>
            have HG := Lib.hid (Sort.sd_right_go lessR dk h1 HL.out hG)
            have c0b := S5.c0
            have hl := E.lessAt S5 hds ((first : Int) + (root : Int)) ((first : Int) + (2 * (root : Int) + 1 + 1)) (first + root) (first + (2 * root + 2)) (by omega) (by omega) (by omega) (by omega) hG
            clear hG
            go_wp2_with fail
            refine hl.mono ?_
            rintro e w6 ⟨rfl, hbw6⟩
            have S6 := S5.below hbw6
            clear hl hbw6 c0b
            obtain ⟨w7, hsww7, S7⟩ := E.swapAt S6 hds ((first : Int) + (root : Int)) ((first : Int) + (2 * (root : Int) + 1 + 1)) (first + root) (first + (2 * root + 2)) (by omega) (by omega) (by omega) (by omega)
            have c1w7 := S6.c1
            go_wp2
            go_roundw
            case rel => exact ⟨2 * root + 2, _, by go_num, by omega, by rw [sz_swp]; exact hds, S7, Lib.hid (HG.out.symm.trans HE.out)⟩
            case measure => simp [intOf]; omega
          | false =>
            have HG := Lib.hid (Sort.sd_right_stop lessR dk h1 HL.out hG)
            have c0b := S5.c0
            have hl := E.lessAt S5 hds ((first : Int) + (root : Int)) ((first : Int) + (2 * (root : Int) + 1 + 1)) (first + root) (first + (2 * root + 2)) (by omega) (by omega) (by omega) (by omega) hG
            clear hG
            go_wp2_with fail
            refine hl.mono ?_
            rintro e w6 ⟨rfl, hbw6⟩
            have S6 := S5.below hbw6
            clear hl hbw6 c0b
            go_wp2
            (try simp only [Exit.inBlock, Exit.then])
            refine bodyPost_ret (results_none rfl _ _ _) rfl ?_
            exact ⟨rfl, by rw [← HE.out, HG.out]; exact S6.s⟩
        | false =>
          have HL := Lib.hid hL
          have hl := E.lessAt S hds ((first : Int) + (2 * (root : Int) + 1)) ((first : Int) + (2 * (root : Int) + 1) + 1) (first + (2 * root + 1)) (first + (2 * root + 2)) (by omega) (by omega) (by omega) (by omega) hL
          clear hL
          go_wp2_with fail
          refine hl.mono ?_
          rintro e w5 ⟨rfl, hbw5⟩
          have S5 := S.below hbw5
          clear hl hbw5 c0
          cases hG : lessR dk[first + root]! dk[first + (2 * root + 1)]! with
          | true =>
            have HG := Lib.hid (Sort.sd_left_go lessR (hi := hi) (F := first) (root := root) dk (by omega) (fun _ => HL.out) hG)
            have c0b := S5.c0
            have hl := E.lessAt S5 hds ((first : Int) + (root : Int)) ((first : Int) + (2 * (root : Int) + 1)) (first + root) (first + (2 * root + 1)) (by omega) (by omega) (by omega) (by omega) hG
            clear hG
            go_wp2_with fail
            refine hl.mono ?_
            rintro e w6 ⟨rfl, hbw6⟩
            have S6 := S5.below hbw6
            clear hl hbw6 c0b
            obtain ⟨w7, hsww7, S7⟩ := E.swapAt S6 hds ((first : Int) + (root : Int)) ((first : Int) + (2 * (root : Int) + 1)) (first + root) (first + (2 * root + 1)) (by omega) (by omega) (by omega) (by omega)
            have c1w7 := S6.c1
            go_wp2
            go_roundw
            case rel => exact ⟨2 * root + 1, _, by go_num, by omega, by rw [sz_swp]; exact hds, S7, Lib.hid (HG.out.symm.trans HE.out)⟩
            case measure => simp [intOf]; omega
          | false =>
            have HG := Lib.hid (Sort.sd_left_stop lessR (hi := hi) (F := first) (root := root) dk (by omega) (fun _ => HL.out) hG)
            have c0b := S5.c0
            have hl := E.lessAt S5 hds ((first : Int) + (root : Int)) ((first : Int) + (2 * (root : Int) + 1)) (first + root) (first + (2 * root + 1)) (by omega) (by omega) (by omega) (by omega) hG
            clear hG
            go_wp2_with fail
            refine hl.mono ?_
            rintro e w6 ⟨rfl, hbw6⟩
            have S6 := S5.below hbw6
            clear hl hbw6 c0b
            go_wp2
            (try simp only [Exit.inBlock, Exit.then])
            refine bodyPost_ret (results_none rfl _ _ _) rfl ?_
            exact ⟨rfl, by rw [← HE.out, HG.out]; exact S6.s⟩
      · have h1z : ¬ (2 * (root : Int) + 1 + 1 < (hi : Int)) := by omega
        clear c0
        cases hG : lessR dk[first + root]! dk[first + (2 * root + 1)]! with
        | true =>
          have HG := Lib.hid (Sort.sd_left_go lessR (hi := hi) (F := first) (root := root) dk (by omega) (fun h => absurd h h1) hG)
          have c0b := S.c0
          have hl := E.lessAt S hds ((first : Int) + (root : Int)) ((first : Int) + (2 * (root : Int) + 1)) (first + root) (first + (2 * root + 1)) (by omega) (by omega) (by omega) (by omega) hG
          clear hG
          go_wp2_with fail
          refine hl.mono ?_
          rintro e w6 ⟨rfl, hbw6⟩
          have S6 := S.below hbw6
          clear hl hbw6 c0b
          obtain ⟨w7, hsww7, S7⟩ := E.swapAt S6 hds ((first : Int) + (root : Int)) ((first : Int) + (2 * (root : Int) + 1)) (first + root) (first + (2 * root + 1)) (by omega) (by omega) (by omega) (by omega)
          have c1w7 := S6.c1
          go_wp2
          go_roundw
          case rel => exact ⟨2 * root + 1, _, by go_num, by omega, by rw [sz_swp]; exact hds, S7, Lib.hid (HG.out.symm.trans HE.out)⟩
          case measure => simp [intOf]; omega
        | false =>
          have HG := Lib.hid (Sort.sd_left_stop lessR (hi := hi) (F := first) (root := root) dk (by omega) (fun h => absurd h h1) hG)
          have c0b := S.c0
          have hl := E.lessAt S hds ((first : Int) + (root : Int)) ((first : Int) + (2 * (root : Int) + 1)) (first + root) (first + (2 * root + 1)) (by omega) (by omega) (by omega) (by omega) hG
          clear hG
          go_wp2_with fail
          refine hl.mono ?_
          rintro e w6 ⟨rfl, hbw6⟩
          have S6 := S.below hbw6
          clear hl hbw6 c0b
          go_wp2
          (try simp only [Exit.inBlock, Exit.then])
          refine bodyPost_ret (results_none rfl _ _ _) rfl ?_
          exact ⟨rfl, by rw [← HE.out, HG.out]; exact S6.s⟩
set_option maxHeartbeats 4000000 in
set_option maxRecDepth 100000 in
theorem srt_heap (g sf : Nat) (lb sb : Array Value) (blk off N : Nat) (a b : Nat) (d : Array RecR) (w : World) (E : SEnv g sf lb sb blk off N w) (hH : Srt blk off w w d) (hN : d.size = N) (hab : a ≤ b) (hb : b ≤ N) :
    Calls Tryd.prog 68 #[.agg #[.func (.func g) #[] lb, .func (.func sf) #[] sb], .int .i64 a, .int .i64 b] w fun e w' => e = .returned (.tuple #[]) ∧ Srt blk off w w' (Sort.heapSort lessR d a b) := by
  have S0 : SSt blk off w.heap.size (.func (.func g) #[] lb) (.func (.func sf) #[] sb) w (w.alloc (.cells #[.func (.func g) #[] lb, .func (.func sf) #[] sb] 101)) d := SSt.start hH.hold hH.lt _
  have eg := E.eg
  have hbig := E.big
  have ecast : ((b - a : Nat) : Int) = (b : Int) - (a : Int) := by omega
  go_enter Tryd.func68, Tryd.ntmps68
  go_wp2
  go_loopg [9] ((b - a - 1) / 2 + 1) (fun kx s9 wr => s9 = .int .i64 ((kx : Int) - 1) ∧ kx ≤ (b - a - 1) / 2 + 1 ∧ ∃ (dk : Array RecR), dk.size = N ∧ SSt blk off w.heap.size (.func (.func g) #[] lb) (.func (.func sf) #[] sb) w wr dk ∧ Hid (Sort.heapBuild lessR (b - a) a kx dk = Sort.heapBuild lessR (b - a) a ((b - a - 1) / 2 + 1) d))
  case atStart => exact ⟨by rw [half_start hab], Nat.le_refl _, d, hN, S0, Lib.hid rfl⟩
  case round =>
    obtain ⟨rfl, hkk, dk, hds, S, HE⟩ := hrel
    clear S0
    have c0 := S.c0
    have c1 := S.c1
    cases gk with
    | zero =>
      have hB : Hid (dk = Sort.heapBuild lessR (b - a) a ((b - a - 1) / 2 + 1) d) := Lib.hid HE.out
      clear HE hkk
      go_wp2
      go_loopg [10] (b - a) (fun kx s10 wr2 => s10 = .int .i64 ((kx : Int) - 1) ∧ kx ≤ b - a ∧ ∃ (dj : Array RecR), dj.size = N ∧ SSt blk off w.heap.size (.func (.func g) #[] lb) (.func (.func sf) #[] sb) w wr2 dj ∧ Hid (Sort.heapPop lessR a kx dj = Sort.heapPop lessR a (b - a) dk))
      case atStart => exact ⟨by rw [ecast], Nat.le_refl _, dk, hds, S, Lib.hid rfl⟩
      case round =>
        clear S c0 c1
        obtain ⟨rfl, hkk, dj, hdj, S, HE2⟩ := hrel
        cases gk with
        | zero =>
          go_wp2
          go_end0
          have e : dj = Sort.heapSort lessR d a b := by rw [Sort.heapSort, ← hB.out, ← HE2.out]; rfl
          rw [← e]
          exact ⟨rfl, S.s⟩
        | succ kx =>
          have c0 := S.c0
          obtain ⟨w2, hsw, S2⟩ := E.swapAt S hdj (a : Int) ((a : Int) + (kx : Int)) a (a + kx) rfl (by omega) (by omega) (by omega)
          have c1 := S.c1
          have c02 := S2.c0
          have c12 := S2.c1
          have hd2 : (Sort.swp dj a (a + kx)).size = N := by rw [sz_swp]; exact hdj
          have hcall := srt_sift g sf lb sb blk off N 0 kx a (Sort.swp dj a (a + kx)) w2 (E.later S2.s) (Srt.start S2.s.hold S2.s.ltr) hd2 (Nat.zero_le _) (by omega)
          go_wp2_with fail
          refine hcall.mono ?_
          rintro e w3 ⟨rfl, T⟩
          have S3 := S2.call T
          clear c0 c1 c02 c12 hsw hcall
          go_wp2
          go_roundg kx
          case measure => omega
          case rel => exact ⟨by simp, by omega, _, by rw [Sort.size_siftDown lessR _ _ _ _ _ (Nat.le_refl _)]; exact hd2, S3, HE2⟩
    | succ kx =>
      have hcall := srt_sift g sf lb sb blk off N kx (b - a) a dk wr (E.later S.s) (Srt.start S.s.hold S.s.ltr) hds (by omega) (by omega)
      rw [ecast] at hcall
      go_wp2_with fail
      refine hcall.mono ?_
      rintro e w3 ⟨rfl, T⟩
      have S3 := S.call T
      clear c0 c1 hcall
      go_wp2
      go_roundg kx
      case measure => omega
      case rel => exact ⟨by simp, by omega, _, by rw [Sort.size_siftDown lessR _ _ _ _ _ (Nat.le_refl _)]; exact hds, S3, HE⟩
end Go.Proofs.YthffmjeodoinlaaDoor

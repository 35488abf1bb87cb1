/- insertionSort_func, siftDown_func and heapSort_func over a row of Rec. -/
import Derived.Test.YthffmjeodoinlaaDoorSrt
import Derived.Sort.WalkA
import Derived.Sort.WalkB3
namespace Go.Proofs.YthffmjeodoinlaaDoor
open Go.RowKit Go.Lib
set_option maxHeartbeats 4000000 in
set_option maxRecDepth 100000 in
theorem srt_insertion (g sf : Nat) (lb sb : Array Value) (blk off N a b : Nat) (d : Array RecR) (w : World) (E : SEnv g sf lb sb blk off N w) (hH : Srt blk off w w d) (hN : d.size = N) (hab : a ≤ b) (hb : b ≤ N) :
    Calls Tryd.prog 67 #[.agg #[.func (.func g) #[] lb, .func (.func sf) #[] sb], .int .i64 a, .int .i64 b] w fun e w' => e = .returned (.tuple #[]) ∧ Srt blk off w w' (Sort.insertionSort lessR d a b) := by
  have S0 : SSt blk off w.heap.size (.func (.func g) #[] lb) (.func (.func sf) #[] sb) w (w.alloc (.cells #[.func (.func g) #[] lb, .func (.func sf) #[] sb] 101)) d := SSt.start hH.hold hH.lt _
  have eg := E.eg
  have hbig := E.big
  go_enter Tryd.func67, Tryd.ntmps67
  go_wp2
  go_loopw [6] (fun vi wr => ∃ (i : Nat) (dk : Array RecR), vi = .int .i64 i ∧ a < i ∧ i ≤ b + 1 ∧ dk.size = N ∧ SSt blk off w.heap.size (.func (.func g) #[] lb) (.func (.func sf) #[] sb) w wr dk ∧ Sort.insOuter lessR a b i dk = Sort.insOuter lessR a b (a + 1) d) (fun vi _ => b + 1 - (intOf vi).toNat)
  case atStart => exact ⟨a + 1, d, by go_num, by omega, by omega, hN, S0, rfl⟩
  case round =>
    obtain ⟨i, dk, rfl, hai, hib, hsk, S, hO⟩ := hrel
    have HO := Lib.hid hO
    clear hO S0
    by_cases hlt : i < b
    · have hlti : (i : Int) < (b : Int) := by omega
      go_wp2
      go_loopw [7] (fun vj wr2 => ∃ (j : Nat) (dj : Array RecR), vj = .int .i64 j ∧ a ≤ j ∧ j ≤ i ∧ dj.size = N ∧ SSt blk off w.heap.size (.func (.func g) #[] lb) (.func (.func sf) #[] sb) w wr2 dj ∧ Sort.insInner lessR a j dj = Sort.insInner lessR a i dk) (fun vj _ => (intOf vj).toNat)
      case atStart => exact ⟨i, dk, rfl, by omega, Nat.le_refl _, hsk, S, rfl⟩
      case round =>
        obtain ⟨j, dj, rfl, haj, hji, hsj, Sj, hI⟩ := hrel
        have HI := Lib.hid hI
        clear hI S
        obtain ⟨c0, c1⟩ : wr.cell? ⟨w.heap.size, 0, none⟩ = some (.func (.func g) #[] lb) ∧ wr.cell? ⟨w.heap.size, 1, none⟩ = some (.func (.func sf) #[] sb) := ⟨Sj.c0, Sj.c1⟩
        by_cases hja : a < j
        · have hjai : (a : Int) < (j : Int) := by omega
          cases hlv : lessR dj[j]! dj[j - 1]! with
          | true =>
            have hl := E.lessAt Sj hsj (j : Int) ((j : Int) - 1) j (j - 1) rfl (by omega) (by omega) (by omega) hlv
            have HG : Hid _ := Lib.hid (insInner_go lessR a j dj hja hlv)
            clear hlv
            go_wp2_with fail
            refine hl.mono ?_
            rintro e w5 ⟨rfl, hb5⟩
            have S5 := Sj.below hb5
            obtain ⟨w6, hsw, S6⟩ := E.swapAt S5 hsj (j : Int) ((j : Int) - 1) j (j - 1) rfl (by omega) (by omega) (by omega)
            have c15 := S5.c1
            clear hl c0 c1 hb5
            go_wp2
            go_roundw
            case rel => exact ⟨j - 1, _, by congr 1; omega, by omega, by omega, by rw [sz_swp]; exact hsj, S6, by rw [← HI.out, HG.out]⟩
            case measure => simp [intOf]; omega
          | false =>
            have hl := E.lessAt Sj hsj (j : Int) ((j : Int) - 1) j (j - 1) rfl (by omega) (by omega) (by omega) hlv
            have HG : Hid _ := Lib.hid (insInner_stop lessR a j dj (Or.inr hlv))
            clear hlv
            go_wp2_with fail
            refine hl.mono ?_
            rintro e w5 ⟨rfl, hb5⟩
            have S5 := Sj.below hb5
            clear hl c0 c1 hb5
            go_wp2
            go_roundw
            case rel => exact ⟨i + 1, dj, by go_num, by omega, by omega, hsj, S5, by rw [← HO.out, insOuter_go _ _ _ _ _ hlt, ← HI.out, HG.out]⟩
            case measure => simp [intOf]; omega
        · have hjai : ¬ (a : Int) < (j : Int) := by omega
          go_wp2
          go_roundw
          case rel => exact ⟨i + 1, dj, by go_num, by omega, by omega, hsj, Sj, by rw [← HO.out, insOuter_go _ _ _ _ _ hlt, ← HI.out, insInner_stop _ _ _ _ (Or.inl (by omega))]⟩
          case measure => simp [intOf]; omega
    · have hlti : ¬ (i : Int) < (b : Int) := by omega
      go_wp2
      go_end0
      exact ⟨rfl, by unfold Sort.insertionSort; rw [← HO.out, insOuter_stop _ _ _ _ _ hlt]; exact S.s⟩
end Go.Proofs.YthffmjeodoinlaaDoor

/- The helpers toByteS, eqByteS, markByteS, heldByteS of the statements: what each call does. -/
import Derived.Test.YtoodlmhnemamhaaRows
import Derived.Test.YtoodlmhnemamhaaOwn
namespace Go.Proofs.Ytoodlmhnemamhaa
open Go.RowKit
theorem infoByteS : (Try.prog.info? 5).map (fun i => (i.zero, i.size, i.bytes)) = some (some (.int .u8 0), 1, 1) := by kernel_rfl

set_option maxHeartbeats 400000 in
theorem toByteS_any (a : Option Addr) (n cap : Nat) (zs : List Int) (w : World) (h : Rd (encI .u8) 1 w a n cap zs) (hn : n ≤ 1048576) :
    Calls Try.prog 38 #[.slice a n cap] w fun e w' => ∃ g, e = .returned (.slice (some ⟨g, 0, none⟩) n n) ∧ OwnI .u8 5 w.heap.size w'.heap.size w' (some ⟨g, 0, none⟩) n n zs ∧ Below w.heap.size w w' := by
  obtain ⟨i0, hi, hz0, hz1, hz2⟩ := info_parts infoByteS
  have hL := Lib.hid h.len
  have hm := h.max
  have hle := h.le
  unfold maxLen at hm
  go_enter Try.func38, Try.ntmps38
  go_wp2_with (at_make; refine wpList_make_full _ rfl _ _ 22 rfl w.heap.size 5 i0 (.int .u8 0) 1 Try.underlying22 hi hz0 hz1 _ _ _ _ n rfl rfl rfl rfl ?b1 ?b2 ?b3 ?_)
  case b1 => rw [hz2]; omega
  case b2 => unfold maxLen; omega
  case b3 => simp
  intro w1 hown hgrow
  have hbel := below_grown hgrow (Nat.le_refl _) (by simp)
  have hown1 : w1.ownsRow w.heap.size 5 1 (.slice (some ⟨w.heap.size, 0, none⟩) n n) n ((cpy zs 0).map (.int .u8)) := by
    simpa [toList_madeCells_one, cpy_zero, hL.out, Value.cells] using hown
  clear hown hgrow hi hz0 hz1 hz2
  go_wp2
  go_loopw [4] (fun i wr => ∃ k : Nat, k ≤ n ∧ i = .int .i64 k ∧ wr.ownsRow w.heap.size 5 1 (.slice (some ⟨w.heap.size, 0, none⟩) n n) n ((cpy zs k).map (.int .u8)) ∧ Below w.heap.size w wr) (fun i _ => n - (intOf i).toNat)
  case atStart => exact ⟨0, Nat.zero_le _, rfl, hown1, hbel⟩
  case round =>
    obtain ⟨k, hk, rfl, ho, hb⟩ := hrel
    by_cases hlt : k < n
    · obtain ⟨b, off, rfl, hbl, hc⟩ := h.ints (by omega)
      have hcell : wr.cell? ⟨b, off + k, none⟩ = some (.int .u8 (zs[k]?.getD 0)) := (hb.cell (p := ⟨b, off + k, none⟩) hbl).trans (by simpa [List.getD] using hc k hlt)
      have hfr := ho.frozenAt k
      obtain ⟨d, hd⟩ : ∃ d, wr.cell? ⟨w.heap.size, k, none⟩ = some d := by
        rw [ho.cellAt k (by omega)]
        exact ⟨_, List.getElem?_eq_getElem (by rw [List.length_map, cpy_len _ _ (by rw [hL.out]; exact hk), hL.out]; exact hlt)⟩
      have hst := ho.stored k (.int .u8 (zs.getD k 0))
      rw [← List.map_set, cpy_set zs k (by rw [hL.out]; exact hlt)] at hst
      clear hc h
      go_wp2
      go_roundw
      case rel => exact ⟨k + 1, by omega, by go_num, by simpa [List.getD] using hst.1, by simpa [List.getD] using hb.setCell (p := ⟨w.heap.size, k, none⟩) (Nat.le_refl _) _⟩
      case measure => simp [intOf]; omega
    · obtain rfl : k = n := by omega
      rw [← hL.out, cpy_all, hL.out] at ho
      go_wp2
      go_ret
      exact ⟨_, rfl, OwnI.of ho hL.out (by omega), hb⟩

set_option maxHeartbeats 400000 in
theorem eqByteS_any (a b : Option Addr) (n cap m cap' : Nat) (xs ys : List Int) (w : World) (h : Rd (encI .u8) 1 w a n cap xs) (h' : Rd (encI .u8) 1 w b m cap' ys) :
    Calls Try.prog 26 #[.slice a n cap, .slice b m cap'] w fun e w' => e = .returned (.bool (decide (xs = ys))) ∧ Below w.heap.size w w' := by
  have hL := Lib.hid h.len
  have hL' := Lib.hid h'.len
  have hm := h.max
  have hle := h.le
  have hm' := h'.max
  have hle' := h'.le
  unfold maxLen at hm hm'
  by_cases hnm : n = m
  · subst hnm
    go_enter Try.func26, Try.ntmps26
    go_wp2
    go_loopw [5] (fun i wr => ∃ k : Nat, k ≤ n ∧ i = .int .i64 k ∧ xs.take k = ys.take k ∧ Below w.heap.size w wr) (fun i _ => n - (intOf i).toNat)
    case atStart => exact ⟨0, Nat.zero_le _, rfl, rfl, Below.refl _ _⟩
    case round =>
      obtain ⟨k, hk, rfl, he, hb⟩ := hrel
      have HE := Lib.hid he
      clear he
      by_cases hlt : k < n
      · obtain ⟨b1, off1, rfl, hbl1, hc1⟩ := h.ints (by omega)
        obtain ⟨b2, off2, rfl, hbl2, hc2⟩ := h'.ints (by omega)
        have hcell1 : wr.cell? ⟨b1, off1 + k, none⟩ = some (.int .u8 (xs[k]?.getD 0)) := (hb.cell (p := ⟨b1, off1 + k, none⟩) hbl1).trans (by simpa [List.getD] using hc1 k hlt)
        have hcell2 : wr.cell? ⟨b2, off2 + k, none⟩ = some (.int .u8 (ys[k]?.getD 0)) := (hb.cell (p := ⟨b2, off2 + k, none⟩) hbl2).trans (by simpa [List.getD] using hc2 k hlt)
        clear hc1 hc2 h h'
        have hi1 : (k : Int) < (n : Int) := by omega
        go_wp2
        go_quiet (fail)
        go_wp2
        · have hne : xs.getD k 0 ≠ ys.getD k 0 := by have : ((xs[k]?.getD 0) != (ys[k]?.getD 0)) = true := by assumption
                                                     simpa [List.getD] using this
          go_ret
          refine ⟨?_, below_drewN hb _⟩
          have : ¬ xs = ys := fun e => hne (by rw [e])
          simp [this]
        · have heq : xs.getD k 0 = ys.getD k 0 := by have : ((xs[k]?.getD 0) != (ys[k]?.getD 0)) = false := by assumption
                                                     simpa [List.getD] using this
          have heq' := Lib.hid heq
          clear heq
          go_roundw
          case rel => exact ⟨k + 1, by omega, by go_num, take_succ_eq HE.out (by rw [hL.out]; exact hlt) (by rw [hL'.out]; exact hlt) heq'.out, below_drewN hb _⟩
          case measure => simp [intOf]; omega
      · obtain rfl : k = n := by omega
        go_wp2
        go_ret
        refine ⟨?_, hb⟩
        have := HE.out
        rw [List.take_of_length_le (by rw [hL.out]; exact Nat.le_refl _), List.take_of_length_le (by rw [hL'.out]; exact Nat.le_refl _)] at this
        simp [this]
  · have hne : ¬ xs = ys := fun e => hnm (by rw [← hL.out, ← hL'.out, e])
    have hi1 : ((n : Int) != (m : Int)) = true := by simp; omega
    go_enter Try.func26, Try.ntmps26
    go_wp2
    go_ret
    exact ⟨by simp [hne], Below.refl _ _⟩
end Go.Proofs.Ytoodlmhnemamhaa

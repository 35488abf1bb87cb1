/- GraphOk of the program and of the reference: what they compute. -/
import Derived.Test.YtgkgbpgnbnledaaDoorEdge
import Derived.Test.YtgkgbpgnbnledaaDoorKeep
namespace Go.Proofs.YtgkgbpgnbnledaaDoor
open Go.RowKit
set_option maxRecDepth 100000 in
set_option maxHeartbeats 3200000 in
theorem graphOk_impl (n : Int) (a : Option Addr) (m cap : Nat) (xs : List EdgeR) (w : World) (h : Rd encEdge 3 w a m cap xs) :
    Calls Tryd.prog 31 #[.agg #[.int .i64 n, .slice a m cap]] w fun e w' => e = .returned (.bool (graphB n xs)) ∧ Below w.heap.size w w' := by
  have hL := Lib.hid h.len
  have hm := h.max
  have hle := h.le
  unfold maxLen at hm
  have hb0 := (Below.refl w.heap.size w).alloc (Nat.le_refl _) (.cells #[.int .i64 n, .slice a m cap] 36)
  by_cases hr : (0 ≤ n ∧ n ≤ 150) ∧ m ≤ 400
  · obtain ⟨⟨h1, h2⟩, h3⟩ := hr
    have HG : Hid (xs.all (edgeB n) = true → graphB n xs = true) := Lib.hid fun hx => by simp [graphB, h1, h2, hL.out, h3, hx]
    go_enter Tryd.func31, Tryd.ntmps31
    go_wp2
    go_loopw [22] (fun i wr => ∃ k : Nat, k ≤ m ∧ i = .int .i64 k ∧ (xs.take k).all (edgeB n) = true ∧ Below (w.heap.size + 1) (w.alloc (.cells #[.int .i64 n, .slice a m cap] 36)) wr) (fun i _ => m - (intOf i).toNat)
    case atStart => exact ⟨0, Nat.zero_le _, rfl, rfl, Below.refl _ _⟩
    case round =>
      obtain ⟨k, hk, rfl, he, hb⟩ := hrel
      have HE := Lib.hid he
      clear he
      obtain ⟨hc, hf⟩ := bcell hb
      have hz : w.heap.size < wr.heap.size := by have := hb.size; simp at this; omega
      by_cases hlt : k < m
      · obtain ⟨b1, off1, rfl, hbl1, hc1⟩ := h.edges (by omega)
        have cb : ∀ o, wr.cell? ⟨b1, o, none⟩ = w.cell? ⟨b1, o, none⟩ := fun o => (hc _ _ (by omega)).trans (hb0.cell (p := ⟨b1, o, none⟩) hbl1)
        obtain ⟨k0, k1, k2⟩ := hc1 k hlt
        rw [← cb] at k0 k1 k2
        have hi1 : (k : Int) < (m : Int) := by omega
        have g0 : wr.cell? ⟨w.heap.size, 0, none⟩ = some (.int .i64 n) := by rw [hc _ _ (by omega)]; simp [go_sem]
        have hb2 := fun o => (hb0.trans (hb.mono (Nat.le_succ _))).alloc (hb0.trans (hb.mono (Nat.le_succ _))).size o
        have hb3 := fun o => hb.alloc (by omega) o
        clear hc1 h cb hc hf
        generalize hx : edgeAt xs k = x at *
        obtain ⟨fr, to, wt⟩ := x
        simp only at k0 k1 k2
        cases hE : edgeB n ⟨fr, to, wt⟩ with
        | true =>
          obtain ⟨q1, q2, q3, q4, q5, q6⟩ := edgeB_yes hE
          simp only at q1 q2 q3 q4 q5 q6
          have HX := Lib.hid hx
          have HH := Lib.hid hE
          clear hx hE
          go_wp2
          go_roundw
          case rel => exact ⟨k + 1, by omega, by go_num, all_step (by rw [hL.out]; exact hlt) HE.out (by rw [HX.out]; exact HH.out), hb3 _⟩
          case measure => simp [intOf]; omega
        | false =>
          have q := edgeB_no hE
          have HX := Lib.hid (graphB_no (n := n) (by rw [hL.out]; exact hlt) (by rw [hx]; exact hE))
          clear hx hE
          simp only at q
          rcases q with q | ⟨q1, q2⟩ | ⟨q1, q2, q3⟩ | ⟨q1, q2, q3, q4⟩ | ⟨q1, q2, q3, q4, q5⟩ | ⟨q1, q2, q3, q4, q5, q6⟩ <;> (go_wp2; go_ret; exact ⟨by rw [HX.out]; rfl, hb2 _⟩)
      · obtain rfl : k = m := by omega
        go_wp2
        go_ret
        have := HE.out
        rw [List.take_of_length_le (by rw [hL.out]; exact Nat.le_refl _)] at this
        exact ⟨by rw [HG.out this]; rfl, hb0.trans (hb.mono (Nat.le_succ _))⟩
  · have HF := Lib.hid (show graphB n xs = false from by
      cases hg : graphB n xs with
      | false => rfl
      | true => simp [graphB, hL.out] at hg; omega)
    by_cases a1 : 0 ≤ n
    · by_cases a2 : n ≤ 150
      · have a3 : 400 < m := by omega
        clear hr
        go_enter Tryd.func31, Tryd.ntmps31
        go_wp2
        go_ret
        exact ⟨by rw [HF.out]; rfl, hb0⟩
      · clear hr
        go_enter Tryd.func31, Tryd.ntmps31
        go_wp2
        go_ret
        exact ⟨by rw [HF.out]; rfl, hb0⟩
    · clear hr
      go_enter Tryd.func31, Tryd.ntmps31
      go_wp2
      go_ret
      exact ⟨by rw [HF.out]; rfl, hb0⟩
set_option maxRecDepth 100000 in
set_option maxHeartbeats 3200000 in
theorem graphOk_spec (n : Int) (a : Option Addr) (m cap : Nat) (xs : List EdgeR) (w : World) (h : Rd encEdge 3 w a m cap xs) :
    Calls Tryd.prog 46 #[.agg #[.int .i64 n, .slice a m cap]] w fun e w' => e = .returned (.bool (graphB n xs)) ∧ Below w.heap.size w w' := by
  have hL := Lib.hid h.len
  have hm := h.max
  have hle := h.le
  unfold maxLen at hm
  have hb0 := (Below.refl w.heap.size w).alloc (Nat.le_refl _) (.cells #[.int .i64 n, .slice a m cap] 36)
  go_enter Tryd.func46, Tryd.ntmps46
  go_wp2
  go_loopw [8] (fun i wr => ∃ k : Nat, k ≤ m ∧ i = .int .i64 k ∧ (xs.take k).all (edgeB n) = true ∧ Below (w.heap.size + 1) (w.alloc (.cells #[.int .i64 n, .slice a m cap] 36)) wr) (fun i _ => m - (intOf i).toNat)
  case atStart => exact ⟨0, Nat.zero_le _, rfl, rfl, Below.refl _ _⟩
  case round =>
    obtain ⟨k, hk, rfl, he, hb⟩ := hrel
    have HE := Lib.hid he
    clear he
    obtain ⟨hc, hf⟩ := bcell hb
    have hz : w.heap.size < wr.heap.size := by have := hb.size; simp at this; omega
    by_cases hlt : k < m
    · obtain ⟨b1, off1, rfl, hbl1, hc1⟩ := h.edges (by omega)
      have cb : ∀ o, wr.cell? ⟨b1, o, none⟩ = w.cell? ⟨b1, o, none⟩ := fun o => (hc _ _ (by omega)).trans (hb0.cell (p := ⟨b1, o, none⟩) hbl1)
      obtain ⟨k0, k1, k2⟩ := hc1 k hlt
      rw [← cb] at k0 k1 k2
      have hi1 : (k : Int) < (m : Int) := by omega
      have g0 : wr.cell? ⟨w.heap.size, 0, none⟩ = some (.int .i64 n) := by rw [hc _ _ (by omega)]; simp [go_sem]
      have hb2 := fun o => (hb0.trans (hb.mono (Nat.le_succ _))).alloc (hb0.trans (hb.mono (Nat.le_succ _))).size o
      have hb3 := fun o => hb.alloc (by omega) o
      clear hc1 h cb hc hf
      generalize hx : edgeAt xs k = x at *
      obtain ⟨fr, to, wt⟩ := x
      simp only at k0 k1 k2
      cases hE : edgeB n ⟨fr, to, wt⟩ with
      | true =>
        obtain ⟨q1, q2, q3, q4, q5, q6⟩ := edgeB_yes hE
        simp only at q1 q2 q3 q4 q5 q6
        have HX := Lib.hid hx
        have HH := Lib.hid hE
        clear hx hE
        go_wp2
        go_roundw
        case rel => exact ⟨k + 1, by omega, by go_num, all_step (by rw [hL.out]; exact hlt) HE.out (by rw [HX.out]; exact HH.out), hb3 _⟩
        case measure => simp [intOf]; omega
      | false =>
        have q := edgeB_no hE
        have HX := Lib.hid (graphB_no (n := n) (by rw [hL.out]; exact hlt) (by rw [hx]; exact hE))
        clear hx hE
        simp only at q
        rcases q with q | ⟨q1, q2⟩ | ⟨q1, q2, q3⟩ | ⟨q1, q2, q3, q4⟩ | ⟨q1, q2, q3, q4, q5⟩ | ⟨q1, q2, q3, q4, q5, q6⟩ <;> (go_wp2; go_ret; exact ⟨by rw [HX.out]; rfl, hb2 _⟩)
    · obtain rfl : k = m := by omega
      have g0 : wr.cell? ⟨w.heap.size, 0, none⟩ = some (.int .i64 n) := by rw [hc _ _ (by omega)]; simp [go_sem]
      have g1 : wr.cell? ⟨w.heap.size, 1, none⟩ = some (.slice a k cap) := by rw [hc _ _ (by omega)]; simp [go_sem]
      have hA := HE.out
      rw [List.take_of_length_le (by rw [hL.out]; exact Nat.le_refl _)] at hA
      have HG := Lib.hid (show graphB n xs = (decide (0 ≤ n) && decide (n ≤ 150) && decide (k ≤ 400)) from by simp [graphB, hL.out, hA])
      clear hA hc hf
      by_cases a1 : 0 ≤ n
      · by_cases a2 : n ≤ 150
        · by_cases a3 : k ≤ 400
          · have HD := Lib.hid (show (decide (0 ≤ n) && decide (n ≤ 150) && decide (k ≤ 400)) = true from by simp [a1, a2, a3])
            go_wp2
            go_ret
            exact ⟨ret_b (by rw [HG.out, HD.out]; simp; omega), hb0.trans (hb.mono (Nat.le_succ _))⟩
          · have HD := Lib.hid (show (decide (0 ≤ n) && decide (n ≤ 150) && decide (k ≤ 400)) = false from by simp [a1, a2, a3])
            go_wp2
            go_ret
            exact ⟨ret_b (by rw [HG.out, HD.out]; simp; omega), hb0.trans (hb.mono (Nat.le_succ _))⟩
        · have HD := Lib.hid (show (decide (0 ≤ n) && decide (n ≤ 150) && decide (k ≤ 400)) = false from by simp [a1, a2])
          go_wp2
          go_ret
          exact ⟨ret_b (by rw [HG.out, HD.out]), hb0.trans (hb.mono (Nat.le_succ _))⟩
      · have HD := Lib.hid (show (decide (0 ≤ n) && decide (n ≤ 150) && decide (k ≤ 400)) = false from by simp [a1])
        go_wp2
        go_ret
        exact ⟨ret_b (by rw [HG.out, HD.out]), hb0.trans (hb.mono (Nat.le_succ _))⟩
end Go.Proofs.YtgkgbpgnbnledaaDoor

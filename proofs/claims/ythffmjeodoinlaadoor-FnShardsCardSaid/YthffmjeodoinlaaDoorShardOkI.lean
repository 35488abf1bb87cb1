/- ShardOk of the program: what it computes. -/
import Derived.Test.YthffmjeodoinlaaDoorShardP
namespace Go.Proofs.YthffmjeodoinlaaDoor
open Go.RowKit
set_option maxRecDepth 100000 in
set_option maxHeartbeats 6400000 in
theorem shardOk_impl (lo hi : Int) (a : Option Addr) (m cap : Nat) (xs : List SEdgeR) (w : World) (h : Rd encSEdge 5 w a m cap xs) :
    Calls Tryd.prog 13 #[.agg #[.int .i64 lo, .int .i64 hi, .slice a m cap]] w fun e w' => e = .returned (.bool (shardB lo hi xs)) ∧ Below w.heap.size w w' := by
  have hL := Lib.hid h.len
  have hm := h.max
  have hle := h.le
  unfold maxLen at hm
  have hb0 := (Below.refl w.heap.size w).alloc (Nat.le_refl _) (.cells #[.int .i64 lo, .int .i64 hi, .slice a m cap] 38)
  by_cases hr : ((0 ≤ lo ∧ lo < hi) ∧ hi ≤ 150) ∧ m ≤ 400
  · obtain ⟨⟨⟨h1, h2⟩, h3⟩, h4⟩ := hr
    have HG : Hid ((List.range xs.length).all (stepB lo hi xs) = true → shardB lo hi xs = true) := Lib.hid fun hx => by unfold shardB; rw [hx]; simp [h1, h2, h3, hL.out, h4]
    go_enter Tryd.func13, Tryd.ntmps13
    go_wp2
    go_loopw [30] (fun i wr => ∃ k : Nat, k ≤ m ∧ i = .int .i64 k ∧ (List.range k).all (stepB lo hi xs) = true ∧ Below (w.heap.size + 1) (w.alloc (.cells #[.int .i64 lo, .int .i64 hi, .slice a m cap] 38)) wr) (fun i _ => m - (intOf i).toNat)
    case atStart => exact ⟨0, Nat.zero_le _, rfl, rfl, Below.refl _ _⟩
    case round =>
      obtain ⟨k, hk, rfl, he, hb⟩ := hrel
      have HE := Lib.hid he
      clear he
      obtain ⟨hc, hf⟩ := bcell hb
      have hz : w.heap.size < wr.heap.size := by have := hb.size; simp at this; omega
      by_cases hlt : k < m
      · obtain ⟨b1, off1, rfl, hbl1, hc1⟩ := h.rowSEdge (by omega)
        have cb : ∀ o, wr.cell? ⟨b1, o, none⟩ = w.cell? ⟨b1, o, none⟩ := fun o => (hc _ _ (by omega)).trans (hb0.cell (p := ⟨b1, o, none⟩) hbl1)
        have hbl2 : b1 < wr.heap.size := by omega
        obtain ⟨k0, k1, k2, k3, k4⟩ := hc1 k hlt
        obtain ⟨l0, l1, l2, l3, l4⟩ := hc1 (k - 1) (by omega)
        rw [← cb] at k0 k1 k2 k3 k4 l0 l1 l2 l3 l4
        have hi1 : (k : Int) < (m : Int) := by omega
        have g0 : wr.cell? ⟨w.heap.size, 0, none⟩ = some (.int .i64 lo) := by rw [hc _ _ (by omega)]; simp [go_sem]
        have g1 : wr.cell? ⟨w.heap.size, 1, none⟩ = some (.int .i64 hi) := by rw [hc _ _ (by omega)]; simp [go_sem]
        have g2 : wr.cell? ⟨w.heap.size, 2, none⟩ = some (.slice (some ⟨b1, off1, none⟩) m cap) := by rw [hc _ _ (by omega)]; simp [go_sem]
        have BB := hb0.trans (hb.mono (Nat.le_succ _))
        have hb3 := fun o => hb.alloc (by omega) o
        have hkx : k < xs.length := by rw [hL.out]; exact hlt
        have HNO : Hid (stepB lo hi xs k = false → shardB lo hi xs = false) := Lib.hid (shardB_no hkx)
        have HBAD : Hid (sedgeB lo hi (atSEdge xs k) = false → stepB lo hi xs k = false) := Lib.hid stepB_bad
        have HNEXT : Hid (sedgeB lo hi (atSEdge xs k) = true → 0 < k → stepB lo hi xs k = nextB (atSEdge xs (k - 1)) (atSEdge xs k)) := Lib.hid stepB_next
        have HFIRST : Hid (sedgeB lo hi (atSEdge xs k) = true → k = 0 → stepB lo hi xs k = true) := Lib.hid (fun hs hk0 => by subst hk0; exact stepB_first hs)
        clear hc1 h cb hc hf
        generalize atSEdge xs k = x at *
        generalize atSEdge xs (k - 1) = q at *
        obtain ⟨fr, to, wt, ix, val⟩ := x
        obtain ⟨fr', to', wt', ix', val'⟩ := q
        simp only at k0 k1 k2 k3 k4 l0 l1 l2 l3 l4
        cases hE : sedgeB lo hi ⟨fr, to, wt, ix, val⟩ with
        | true =>
          obtain ⟨⟨q1, q2, q3, q4, q5, q6, q7, q8⟩, q9⟩ := sedgeB_yes hE
          have HV := Lib.hid q9
          simp only at q1 q2 q3 q4 q5 q6 q7 q8
          clear q9
          by_cases hk0 : k = 0
          · have HS := Lib.hid (HFIRST.out hE hk0)
            have hki : (k : Int) ≤ 0 := by omega
            clear hE hk0
            go_wp2_with (go_at_call 27; refine (isNumber_any _ _).mono ?_; rintro e w' ⟨rfl, rfl⟩; rw [HV.out])
            go_roundw
            case rel => exact ⟨k + 1, by omega, by go_num, range_step HE.out HS.out, hb3 _⟩
            case measure => simp [intOf]; omega
          · have hkp : 0 < k := by omega
            have hki : (0 : Int) < (k : Int) := by omega
            have HS := Lib.hid (HNEXT.out hE hkp)
            clear hE hk0
            cases hN : nextB ⟨fr', to', wt', ix', val'⟩ ⟨fr, to, wt, ix, val⟩ with
            | true =>
              have hn := nextB_yes hN
              have HN := Lib.hid hN
              have hb4 := fun o o' => (hb3 o).alloc (by simp; omega) o'
              clear hN
              simp only at hn
              rcases hn with hn | ⟨rfl, hn⟩ <;> (go_wp2_with (go_at_call 27; refine (isNumber_any _ _).mono ?_; rintro e w' ⟨rfl, rfl⟩; rw [HV.out]); go_roundw; (case rel => exact ⟨k + 1, by omega, by go_num, range_step HE.out (HS.out.trans HN.out), hb4 _ _⟩); (case measure => simp [intOf]; omega))
            | false =>
              have hn := nextB_no hN
              have HX := Lib.hid (HNO.out (HS.out.trans hN))
              have hb4 := fun o o' => (BB.alloc BB.size o).alloc (by have := BB.size; simp; omega) o'
              clear hN
              simp only at hn
              rcases hn with hn | ⟨rfl, hn⟩ <;> (go_wp2_with (go_at_call 27; refine (isNumber_any _ _).mono ?_; rintro e w' ⟨rfl, rfl⟩; rw [HV.out]); go_ret; exact ⟨by rw [HX.out]; rfl, hb4 _ _⟩)
        | false =>
          have q := sedgeB_no hE
          have HX := Lib.hid (HNO.out (HBAD.out hE))
          have hb2 := fun o => BB.alloc BB.size o
          clear hE HNO HBAD HNEXT HFIRST
          simp only at q
          rcases q with q | ⟨q1, q2, q3, q4, q5, q6, q7, q8, q⟩
          · rcases q with q | ⟨q1, q⟩ | ⟨q1, q2, q⟩ | ⟨q1, q2, q3, q⟩ | ⟨q1, q2, q3, q4, q⟩ | ⟨q1, q2, q3, q4, q5, q⟩ | ⟨q1, q2, q3, q4, q5, q6, q⟩ | ⟨q1, q2, q3, q4, q5, q6, q7, q⟩ <;> (go_wp2; go_ret; exact ⟨by rw [HX.out]; rfl, hb2 _⟩)
          have HV := Lib.hid q
          clear q
          go_wp2_with (go_at_call 27; refine (isNumber_any _ _).mono ?_; rintro e w' ⟨rfl, rfl⟩; rw [HV.out])
          go_ret
          exact ⟨by rw [HX.out]; rfl, hb2 _⟩
      · obtain rfl : k = m := by omega
        go_wp2
        go_ret
        have := HE.out
        rw [← hL.out] at this
        exact ⟨by rw [HG.out this]; rfl, hb0.trans (hb.mono (Nat.le_succ _))⟩
  · have HF := Lib.hid (show shardB lo hi xs = false from by
      cases hg : shardB lo hi xs with
      | false => rfl
      | true => have := shardB_yes hg; rw [hL.out] at this; omega)
    by_cases a1 : 0 ≤ lo
    · by_cases a2 : lo < hi
      · by_cases a3 : hi ≤ 150
        · have a4 : 400 < m := by omega
          clear hr
          go_enter Tryd.func13, Tryd.ntmps13
          go_wp2
          go_ret
          exact ⟨by rw [HF.out]; rfl, hb0⟩
        · clear hr
          go_enter Tryd.func13, Tryd.ntmps13
          go_wp2
          go_ret
          exact ⟨by rw [HF.out]; rfl, hb0⟩
      · clear hr
        go_enter Tryd.func13, Tryd.ntmps13
        go_wp2
        go_ret
        exact ⟨by rw [HF.out]; rfl, hb0⟩
    · clear hr
      go_enter Tryd.func13, Tryd.ntmps13
      go_wp2
      go_ret
      exact ⟨by rw [HF.out]; rfl, hb0⟩
end Go.Proofs.YthffmjeodoinlaaDoor

/- readEdge of the program. -/
import Derived.Test.YtgkgbpgnbnledaaDoorLines
namespace Go.Proofs.YtgkgbpgnbnledaaDoor
open Go.RowKit
/-- What readEdge returns. -/
def RetRE (r : EdgeD × Bool) (w : World) (e : Ending) (w' : World) : Prop := e = .returned (.tuple #[.agg #[.int .i64 r.1.1, .int .i64 r.1.2.1, .int .i64 r.1.2.2], .bool r.2]) ∧ Below w.heap.size w w'
theorem readEdgeL_no {s : List UInt8} {n : Int} (h : (cutAt 32 s).length ≠ 3) : readEdgeL s n = ((0, 0, 0), false) := by
  unfold readEdgeL
  split
  · rename_i a b c e
    rw [e] at h
    exact absurd rfl h
  · rfl
theorem readEdgeL_three {s : List UInt8} {n : Int} {a b c : List UInt8} (h : cutAt 32 s = [a, b, c]) {v0 v1 v2 : Int} {b0 b1 b2 : Bool} (h0 : textNumL a = (v0, b0)) (h1 : textNumL b = (v1, b1)) (h2 : textNumL c = (v2, b2)) : readEdgeL s n = ((v0, v1, v2), b0 && b1 && b2 && decide (v0 < n) && decide (v1 < n) && decide (v2 ≤ 1000)) := by
  unfold readEdgeL
  rw [h]
  simp only [h0, h1, h2]
theorem three_of {L : List (List UInt8)} (h : L.length = 3) : ∃ a b c, L = [a, b, c] := by
  match L, h with
  | [a, b, c], _ => exact ⟨a, b, c, rfl⟩
set_option maxRecDepth 100000 in
set_option maxHeartbeats 6400000 in
theorem readEdge_impl (s : ByteArray) (hs : s.size ≤ 1048576) (n : Int) (w : World) (hm : SomeInt 3 w) (hp : Pow Tryd.prog w) (he : Errs Tryd.prog w) :
    Calls Tryd.prog 55 #[.string s, .int .i64 n] w fun e w' => RetRE (readEdgeL s.data.toList n) w e w' := by
  have hba := (Below.refl w.heap.size w).alloc (Nat.le_refl _) (.cells #[.int .i64 0, .int .i64 0, .int .i64 0] 50)
  have hsz := size_dataB s
  have hmem := cutAt_mem_len 32 s.data.toList
  rw [hsz] at hmem
  have c0 := fun w hm => parts_impl s hs w hm
  by_cases h3 : (cutAt 32 s.data.toList).length = 3
  · obtain ⟨p0, p1, p2, hc⟩ := three_of h3
    obtain ⟨⟨v0, b0⟩, ht0⟩ : ∃ x, textNumL p0 = x := ⟨_, rfl⟩
    obtain ⟨⟨v1, b1⟩, ht1⟩ : ∃ x, textNumL p1 = x := ⟨_, rfl⟩
    obtain ⟨⟨v2, b2⟩, ht2⟩ : ∃ x, textNumL p2 = x := ⟨_, rfl⟩
    have HR := Lib.hid (readEdgeL_three (n := n) hc ht0 ht1 ht2)
    rw [hc] at hmem c0
    have hz : ∀ p ∈ [p0, p1, p2], (mkB p).size ≤ 1048576 := fun p hp => by rw [mkB_size]; exact Nat.le_trans (hmem p hp) hs
    have q0 := fun w hp he => textNum_impl (mkB p0) (hz p0 (by simp)) w hp he
    have q1 := fun w hp he => textNum_impl (mkB p1) (hz p1 (by simp)) w hp he
    have q2 := fun w hp he => textNum_impl (mkB p2) (hz p2 (by simp)) w hp he
    simp only [mkB_data] at q0 q1 q2
    unfold RetTN at q0 q1 q2
    rw [ht0] at q0
    rw [ht1] at q1
    rw [ht2] at q2
    unfold RetS at c0
    clear hmem hz hc h3 ht0 ht1 ht2
    simp only [List.map_cons, List.map_nil] at c0
    go_enter Tryd.func55, Tryd.ntmps55
    go_wp2_with fail
    refine (c0 _ (hm.later hba (Nat.le_refl _))).mono ?_
    rintro e w1 ⟨a1, n1, k1, rfl, ho1, hb1⟩
    have hn1 : n1 = 3 := by have := ho1.len; simpa using this.symm
    subst hn1
    obtain ⟨b, off, hab, hbl, hcs⟩ := ho1.rdS.strs (by omega)
    subst hab
    have k0 : w1.cell? ⟨b, off, none⟩ = some (.string (mkB p0)) := hcs 0 (by omega)
    have k1 : w1.cell? ⟨b, off + 1, none⟩ = some (.string (mkB p1)) := hcs 1 (by omega)
    have k2 : w1.cell? ⟨b, off + 2, none⟩ = some (.string (mkB p2)) := hcs 2 (by omega)
    have hcap := ho1.rdS.le
    have hmx := ho1.rdS.max
    unfold maxLen at hmx
    have B1 := hba.trans (hb1.mono (by simp))
    clear hcs ho1 c0
    go_wp2_with fail
    refine (q0 _ (hp.later B1 (Nat.le_refl _)) (he.later B1 (Nat.le_refl _))).mono ?_
    rintro e w2 ⟨rfl, hb2⟩
    have k1' := cell_later hb2 k1
    have k2' := cell_later hb2 k2
    have B2 := B1.trans (hb2.mono B1.size)
    clear k0 k1 k2
    go_wp2_with fail
    refine (q1 _ (hp.later B2 (Nat.le_refl _)) (he.later B2 (Nat.le_refl _))).mono ?_
    rintro e w3 ⟨rfl, hb3⟩
    have k2 := cell_later hb3 k2'
    have B3 := B2.trans (hb3.mono B2.size)
    clear k1' k2'
    go_wp2_with fail
    refine (q2 _ (hp.later B3 (Nat.le_refl _)) (he.later B3 (Nat.le_refl _))).mono ?_
    rintro e w4 ⟨rfl, hb4⟩
    have B4 := B3.trans (hb4.mono B3.size)
    have s1 := hb1.size
    simp only [World.size_alloc] at s1
    have hbA : Below (w.heap.size + 1) (w.alloc (.cells #[.int .i64 0, .int .i64 0, .int .i64 0] 50)) w4 := by
      have s2 := hb2.size
      have s3 := hb3.size
      exact (Below.mono hb1 (by simp)).trans ((hb2.mono (by omega)).trans ((hb3.mono (by omega)).trans (hb4.mono (by omega))))
    obtain ⟨hc, hf⟩ := bcell hbA
    have x0 : w4.cell? ⟨w.heap.size, 0, none⟩ = some (.int .i64 0) := by rw [hc _ _ (by omega)]; simp [go_sem]
    have x1 : w4.cell? ⟨w.heap.size, 1, none⟩ = some (.int .i64 0) := by rw [hc _ _ (by omega)]; simp [go_sem]
    have x2 : w4.cell? ⟨w.heap.size, 2, none⟩ = some (.int .i64 0) := by rw [hc _ _ (by omega)]; simp [go_sem]
    have y0 : w4.frozen? ⟨w.heap.size, 0, none⟩ = false := by rw [hf _ _ (by omega)]; simp [go_sem]
    have y1 : w4.frozen? ⟨w.heap.size, 1, none⟩ = false := by rw [hf _ _ (by omega)]; simp [go_sem]
    have y2 : w4.frozen? ⟨w.heap.size, 2, none⟩ = false := by rw [hf _ _ (by omega)]; simp [go_sem]
    have BF : Below w.heap.size w (((w4.setCell ⟨w.heap.size, 0, none⟩ (.int .i64 v0)).setCell ⟨w.heap.size, 1, none⟩ (.int .i64 v1)).setCell ⟨w.heap.size, 2, none⟩ (.int .i64 v2)) := ((B4.setCell (p := ⟨w.heap.size, 0, none⟩) (Nat.le_refl _) _).setCell (p := ⟨w.heap.size, 1, none⟩) (Nat.le_refl _) _).setCell (p := ⟨w.heap.size, 2, none⟩) (Nat.le_refl _) _
    clear hc hf hbA hb1 hb2 hb3 hb4 B1 B2 B3 B4 q0 q1 q2 k2 hba
    cases b0 with
    | false =>
      go_wp2
      refine bodyPost_ret (v := .tuple #[.agg #[.int .i64 v0, .int .i64 v1, .int .i64 v2], .bool false]) (by simp [results, Tryd.results55, go_sem, x0, x1, x2]) rfl ?_
      exact ⟨by rw [HR.out]; rfl, BF⟩
    | true =>
      cases b1 with
      | false =>
        go_wp2
        refine bodyPost_ret (v := .tuple #[.agg #[.int .i64 v0, .int .i64 v1, .int .i64 v2], .bool false]) (by simp [results, Tryd.results55, go_sem, x0, x1, x2]) rfl ?_
        exact ⟨by rw [HR.out]; rfl, BF⟩
      | true =>
        cases b2 with
        | false =>
          go_wp2
          refine bodyPost_ret (v := .tuple #[.agg #[.int .i64 v0, .int .i64 v1, .int .i64 v2], .bool false]) (by simp [results, Tryd.results55, go_sem, x0, x1, x2]) rfl ?_
          exact ⟨by rw [HR.out]; rfl, BF⟩
        | true =>
          by_cases hv0 : v0 < n
          · by_cases hv1 : v1 < n
            · by_cases hv2 : v2 ≤ 1000
              · have HX := Lib.hid (show (true && true && true && decide (v0 < n) && decide (v1 < n) && decide (v2 ≤ 1000)) = true by simp [hv0, hv1, hv2])
                go_wp2
                refine bodyPost_ret (v := .tuple #[.agg #[.int .i64 v0, .int .i64 v1, .int .i64 v2], .bool true]) (by simp [results, Tryd.results55, go_sem, x0, x1, x2]) rfl ?_
                exact ⟨by rw [HR.out]; rw [HX.out], BF⟩
              · have HX := Lib.hid (show (true && true && true && decide (v0 < n) && decide (v1 < n) && decide (v2 ≤ 1000)) = false by rw [decide_eq_false hv2, Bool.and_false])
                go_wp2
                refine bodyPost_ret (v := .tuple #[.agg #[.int .i64 v0, .int .i64 v1, .int .i64 v2], .bool false]) (by simp [results, Tryd.results55, go_sem, x0, x1, x2]; omega) rfl ?_
                exact ⟨by rw [HR.out]; rw [HX.out], BF⟩
            · have HX := Lib.hid (show (true && true && true && decide (v0 < n) && decide (v1 < n) && decide (v2 ≤ 1000)) = false by rw [decide_eq_false hv1, Bool.and_false, Bool.false_and])
              go_wp2
              refine bodyPost_ret (v := .tuple #[.agg #[.int .i64 v0, .int .i64 v1, .int .i64 v2], .bool false]) (by simp [results, Tryd.results55, go_sem, x0, x1, x2]) rfl ?_
              exact ⟨by rw [HR.out]; rw [HX.out], BF⟩
          · have HX := Lib.hid (show (true && true && true && decide (v0 < n) && decide (v1 < n) && decide (v2 ≤ 1000)) = false by rw [decide_eq_false hv0, Bool.and_false, Bool.false_and, Bool.false_and])
            go_wp2
            refine bodyPost_ret (v := .tuple #[.agg #[.int .i64 v0, .int .i64 v1, .int .i64 v2], .bool false]) (by simp [results, Tryd.results55, go_sem, x0, x1, x2]) rfl ?_
            exact ⟨by rw [HR.out]; rw [HX.out], BF⟩
  · have HR := Lib.hid (readEdgeL_no (n := n) h3)
    have hlen := cutAt_len 32 s.data.toList
    rw [hsz] at hlen
    unfold RetS at c0
    generalize cutAt 32 s.data.toList = X at *
    go_enter Tryd.func55, Tryd.ntmps55
    go_wp2_with fail
    refine (c0 _ (hm.later hba (Nat.le_refl _))).mono ?_
    rintro e w1 ⟨a1, n1, k1, rfl, ho1, hb1⟩
    have hn1 : X.length = n1 := by have := ho1.len; rwa [List.length_map] at this
    have hne : ((n1 : Int) != 3) = true := by simp; omega
    have B1 := hba.trans (hb1.mono (by simp))
    obtain ⟨hc, hf⟩ := bcell hb1
    have x0 : w1.cell? ⟨w.heap.size, 0, none⟩ = some (.int .i64 0) := by rw [hc _ _ (by simp)]; simp [go_sem]
    have x1 : w1.cell? ⟨w.heap.size, 1, none⟩ = some (.int .i64 0) := by rw [hc _ _ (by simp)]; simp [go_sem]
    have x2 : w1.cell? ⟨w.heap.size, 2, none⟩ = some (.int .i64 0) := by rw [hc _ _ (by simp)]; simp [go_sem]
    have y0 : w1.frozen? ⟨w.heap.size, 0, none⟩ = false := by rw [hf _ _ (by simp)]; simp [go_sem]
    have y1 : w1.frozen? ⟨w.heap.size, 1, none⟩ = false := by rw [hf _ _ (by simp)]; simp [go_sem]
    have y2 : w1.frozen? ⟨w.heap.size, 2, none⟩ = false := by rw [hf _ _ (by simp)]; simp [go_sem]
    have BF : Below w.heap.size w (((w1.setCell ⟨w.heap.size, 0, none⟩ (.int .i64 0)).setCell ⟨w.heap.size, 1, none⟩ (.int .i64 0)).setCell ⟨w.heap.size, 2, none⟩ (.int .i64 0)) := ((B1.setCell (p := ⟨w.heap.size, 0, none⟩) (Nat.le_refl _) _).setCell (p := ⟨w.heap.size, 1, none⟩) (Nat.le_refl _) _).setCell (p := ⟨w.heap.size, 2, none⟩) (Nat.le_refl _) _
    clear hc hf ho1 c0 B1 hb1 hba
    go_wp2
    refine bodyPost_ret (v := .tuple #[.agg #[.int .i64 0, .int .i64 0, .int .i64 0], .bool false]) (by simp [results, Tryd.results55, go_sem, x0, x1, x2]) rfl ?_
    exact ⟨by rw [HR.out], BF⟩
end Go.Proofs.YtgkgbpgnbnledaaDoor

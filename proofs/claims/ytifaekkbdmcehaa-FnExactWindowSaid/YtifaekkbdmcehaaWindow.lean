/- Window of the program and of the reference: what they compute. -/
import Derived.Test.YtifaekkbdmcehaaShardOk
namespace Go.Proofs.Ytifaekkbdmcehaa
open Go.RowKit
def cntS (f : SEdgeR → Bool) (xs : List SEdgeR) (k : Nat) : Nat := ((xs.take k).filter f).length
theorem cntS_le (f : SEdgeR → Bool) (xs : List SEdgeR) (k : Nat) : cntS f xs k ≤ k := by
  unfold cntS
  exact Nat.le_trans (List.length_filter_le _ _) (List.length_take_le _ _)
theorem cntS_step (f : SEdgeR → Bool) (xs : List SEdgeR) (k : Nat) (h : k < xs.length) : cntS f xs (k + 1) = cntS f xs k + if f (atSEdge xs k) = true then 1 else 0 := by
  unfold cntS
  rw [List.take_succ_eq_append_getElem h, List.filter_append, atSEdge_eq xs k h]
  cases hf : f xs[k] <;> simp [hf]
def frB (x : Int) (e : SEdgeR) : Bool := decide (e.fr < x)
def winF (xs : List SEdgeR) (x y : Int) : Int × Int := ((cntS (frB x) xs xs.length : Int), (cntS (frB y) xs xs.length : Int))
def windowF (lo hi : Int) (xs : List SEdgeR) (x y : Int) : Int × Int := if shardB lo hi xs = true ∧ x ≤ y then winF xs x y else (0, 0)
theorem windowF_no {lo hi : Int} {xs : List SEdgeR} {x y : Int} (h : ¬ (shardB lo hi xs = true ∧ x ≤ y)) : windowF lo hi xs x y = (0, 0) := if_neg h
theorem windowF_yes {lo hi : Int} {xs : List SEdgeR} {x y : Int} (h : shardB lo hi xs = true) (h2 : x ≤ y) : windowF lo hi xs x y = winF xs x y := if_pos ⟨h, h2⟩
theorem cnt_yes {x : Int} {xs : List SEdgeR} {k : Nat} (h : k < xs.length) (hf : (atSEdge xs k).fr < x) : cntS (frB x) xs (k + 1) = cntS (frB x) xs k + 1 := by rw [cntS_step _ _ _ h]; simp [frB, hf]
theorem cnt_no {x : Int} {xs : List SEdgeR} {k : Nat} (h : k < xs.length) (hf : x ≤ (atSEdge xs k).fr) : cntS (frB x) xs (k + 1) = cntS (frB x) xs k := by
  rw [cntS_step _ _ _ h]
  have : ¬ (atSEdge xs k).fr < x := by omega
  simp [frB, this]
set_option maxRecDepth 100000 in
set_option maxHeartbeats 3200000 in
theorem window_loop (lo hi : Int) (a : Option Addr) (m cap : Nat) (xs : List SEdgeR) (x y : Int) (w : World) (h : Rd encSEdge 5 w a m cap xs) :
    Calls Try.prog 71 #[.agg #[.int .i64 lo, .int .i64 hi, .slice a m cap], .int .i64 x, .int .i64 y] w fun e w' => e = .returned (.tuple #[.int .i64 (winF xs x y).1, .int .i64 (winF xs x y).2]) ∧ Below w.heap.size w w' := by
  have hL := Lib.hid h.len
  have hm := h.max
  have hle := h.le
  unfold maxLen at hm
  have hb0 := (Below.refl w.heap.size w).alloc (Nat.le_refl _) (.cells #[.int .i64 lo, .int .i64 hi, .slice a m cap] 47)
  have hz0 : (w.alloc (.cells #[.int .i64 lo, .int .i64 hi, .slice a m cap] 47)).heap.size = w.heap.size + 1 := by simp
  obtain ⟨w1, hw1⟩ : ∃ w1, w1 = w.alloc (.cells #[.int .i64 lo, .int .i64 hi, .slice a m cap] 47) := ⟨_, rfl⟩
  have BB1 : Below w.heap.size w w1 := by rw [hw1]; exact hb0
  have HW := Lib.hid hw1
  clear hw1
  go_enter Try.func71, Try.ntmps71
  go_wp2
  rw [← HW.out]
  clear hb0 hz0
  go_loopw [8, 9, 15] (fun c d i wr => ∃ k : Nat, k ≤ m ∧ i = .int .i64 k ∧ c = .int .i64 (cntS (frB x) xs k) ∧ d = .int .i64 (cntS (frB y) xs k) ∧ Below w1.heap.size w1 wr) (fun _ _ i _ => m - (intOf i).toNat)
  case atStart => exact ⟨0, Nat.zero_le _, rfl, by go_num, by go_num, Below.refl _ _⟩
  case round =>
    obtain ⟨k, hk, rfl, rfl, rfl, hb⟩ := hrel
    have hz := hb.size
    by_cases hlt : k < m
    · obtain ⟨b1, off1, rfl, hbl1, hc1⟩ := h.rowSEdge (by omega)
      have cb : ∀ o, wr.cell? ⟨b1, o, none⟩ = w.cell? ⟨b1, o, none⟩ := fun o => (hb.cell (p := ⟨b1, o, none⟩) (Nat.lt_of_lt_of_le hbl1 BB1.size)).trans (BB1.cell (p := ⟨b1, o, none⟩) hbl1)
      obtain ⟨k0, k1, k2, k3, k4⟩ := hc1 k hlt
      rw [← cb] at k0 k1 k2 k3 k4
      have hkx : k < xs.length := by rw [hL.out]; exact hlt
      have hi1 : (k : Int) < (m : Int) := by omega
      have n1 := cntS_le (frB x) xs k
      have n2 := cntS_le (frB y) xs k
      have Y1 := Lib.hid (fun hf => cnt_yes (x := x) hkx hf)
      have Y2 := Lib.hid (fun hf => cnt_yes (x := y) hkx hf)
      have N1 := Lib.hid (fun hf => cnt_no (x := x) hkx hf)
      have N2 := Lib.hid (fun hf => cnt_no (x := y) hkx hf)
      have hb3 := fun o => hb.alloc hb.size o
      clear hc1 cb h
      generalize hxx : atSEdge xs k = v at *
      obtain ⟨fr, to, wt, ix, val⟩ := v
      clear hxx
      generalize hc1 : cntS (frB x) xs k = c1 at *
      generalize hc2 : cntS (frB y) xs k = c2 at *
      clear hc1 hc2
      simp only at k0 k1 k2 k3 k4 Y1 Y2 N1 N2
      by_cases f1 : fr < x <;> by_cases f2 : fr < y
      · have E1 := Lib.hid (Y1.out f1)
        have E2 := Lib.hid (Y2.out f2)
        go_wp2
        go_roundw
        case rel => exact ⟨k + 1, by omega, by go_num, by rw [E1.out]; go_num, by rw [E2.out]; go_num, hb3 _⟩
        case measure => simp [intOf]; omega
      · have E1 := Lib.hid (Y1.out f1)
        have E2 := Lib.hid (N2.out (by omega))
        have f2' : y ≤ fr := by omega
        clear f2
        go_wp2
        go_roundw
        case rel => exact ⟨k + 1, by omega, by go_num, by rw [E1.out]; go_num, by rw [E2.out], hb3 _⟩
        case measure => simp [intOf]; omega
      · have E1 := Lib.hid (N1.out (by omega))
        have E2 := Lib.hid (Y2.out f2)
        have f1' : x ≤ fr := by omega
        clear f1
        go_wp2
        go_roundw
        case rel => exact ⟨k + 1, by omega, by go_num, by rw [E1.out], by rw [E2.out]; go_num, hb3 _⟩
        case measure => simp [intOf]; omega
      · have E1 := Lib.hid (N1.out (by omega))
        have E2 := Lib.hid (N2.out (by omega))
        have f1' : x ≤ fr := by omega
        have f2' : y ≤ fr := by omega
        clear f1 f2
        go_wp2
        go_roundw
        case rel => exact ⟨k + 1, by omega, by go_num, by rw [E1.out], by rw [E2.out], hb3 _⟩
        case measure => simp [intOf]; omega
    · obtain rfl : k = m := by omega
      go_wp2
      go_ret2
      exact ⟨by unfold winF; rw [hL.out] <;> rfl, BB1.trans (hb.mono BB1.size)⟩
set_option maxRecDepth 100000 in
set_option maxHeartbeats 3200000 in
theorem window_impl (lo hi : Int) (a : Option Addr) (m cap : Nat) (xs : List SEdgeR) (x y : Int) (w : World) (h : Rd encSEdge 5 w a m cap xs) :
    Calls Try.prog 37 #[.agg #[.int .i64 lo, .int .i64 hi, .slice a m cap], .int .i64 x, .int .i64 y] w fun e w' => e = .returned (.tuple #[.int .i64 (windowF lo hi xs x y).1, .int .i64 (windowF lo hi xs x y).2]) ∧ Below w.heap.size w w' := by
  have hL := Lib.hid h.len
  have hm := h.max
  have hle := h.le
  unfold maxLen at hm
  have hb0 := (Below.refl w.heap.size w).alloc (Nat.le_refl _) (.cells #[.int .i64 lo, .int .i64 hi, .slice a m cap] 47)
  cases hg : shardB lo hi xs with
  | false =>
    have HG := Lib.hid hg
    have HR := Lib.hid (windowF_no (lo := lo) (hi := hi) (xs := xs) (x := x) (y := y) (by rw [hg]; simp))
    clear hg
    go_enter Try.func37, Try.ntmps37
    go_wp2_with fail
    refine (shardOk_impl lo hi a m cap xs _ (h.below hb0 (Nat.le_refl _))).mono ?_
    rintro e w1 ⟨rfl, hb1⟩
    rw [HG.out]
    obtain ⟨hc, hf⟩ := bcell hb1
    have c0 : w1.cell? ⟨w.heap.size, 0, none⟩ = some (.int .i64 lo) := by rw [hc _ _ (by simp)]; simp [go_sem]
    have c1 : w1.cell? ⟨w.heap.size, 1, none⟩ = some (.int .i64 hi) := by rw [hc _ _ (by simp)]; simp [go_sem]
    have c2 : w1.cell? ⟨w.heap.size, 2, none⟩ = some (.slice a m cap) := by rw [hc _ _ (by simp)]; simp [go_sem]
    have BB1 := hb0.trans (hb1.mono (by simp))
    have sz1 : w.heap.size < w1.heap.size := by have := hb1.size; simp at this; omega
    clear hc hf hb1
    go_wp2
    go_ret2
    rw [HR.out]
    exact ⟨rfl, BB1⟩
  | true =>
    by_cases hxy : x ≤ y
    · have HG := Lib.hid hg
      have HR := Lib.hid (windowF_yes hg hxy)
      clear hg
      go_enter Try.func37, Try.ntmps37
      go_wp2_with fail
      refine (shardOk_impl lo hi a m cap xs _ (h.below hb0 (Nat.le_refl _))).mono ?_
      rintro e w1 ⟨rfl, hb1⟩
      rw [HG.out]
      obtain ⟨hc, hf⟩ := bcell hb1
      have c0 : w1.cell? ⟨w.heap.size, 0, none⟩ = some (.int .i64 lo) := by rw [hc _ _ (by simp)]; simp [go_sem]
      have c1 : w1.cell? ⟨w.heap.size, 1, none⟩ = some (.int .i64 hi) := by rw [hc _ _ (by simp)]; simp [go_sem]
      have c2 : w1.cell? ⟨w.heap.size, 2, none⟩ = some (.slice a m cap) := by rw [hc _ _ (by simp)]; simp [go_sem]
      have BB1 := hb0.trans (hb1.mono (by simp))
      have sz1 : w.heap.size < w1.heap.size := by have := hb1.size; simp at this; omega
      clear hc hf hb1
      go_wp2_with fail
      refine (window_loop lo hi a m cap xs x y _ (h.below BB1 (Nat.le_refl _))).mono ?_
      rintro e w2 ⟨rfl, hb2⟩
      go_wp2
      go_ret2
      rw [HR.out]
      exact ⟨rfl, BB1.trans (hb2.mono BB1.size)⟩
    · have HG := Lib.hid hg
      have HR := Lib.hid (windowF_no (lo := lo) (hi := hi) (xs := xs) (x := x) (y := y) (by intro hh; exact hxy hh.2))
      have hxy' : y < x := by omega
      clear hg hxy
      go_enter Try.func37, Try.ntmps37
      go_wp2_with fail
      refine (shardOk_impl lo hi a m cap xs _ (h.below hb0 (Nat.le_refl _))).mono ?_
      rintro e w1 ⟨rfl, hb1⟩
      rw [HG.out]
      obtain ⟨hc, hf⟩ := bcell hb1
      have c0 : w1.cell? ⟨w.heap.size, 0, none⟩ = some (.int .i64 lo) := by rw [hc _ _ (by simp)]; simp [go_sem]
      have c1 : w1.cell? ⟨w.heap.size, 1, none⟩ = some (.int .i64 hi) := by rw [hc _ _ (by simp)]; simp [go_sem]
      have c2 : w1.cell? ⟨w.heap.size, 2, none⟩ = some (.slice a m cap) := by rw [hc _ _ (by simp)]; simp [go_sem]
      have BB1 := hb0.trans (hb1.mono (by simp))
      have sz1 : w.heap.size < w1.heap.size := by have := hb1.size; simp at this; omega
      clear hc hf hb1
      go_wp2
      go_ret2
      rw [HR.out]
      exact ⟨rfl, BB1⟩
set_option maxRecDepth 100000 in
set_option maxHeartbeats 3200000 in
theorem window_spec (lo hi : Int) (a : Option Addr) (m cap : Nat) (xs : List SEdgeR) (x y : Int) (w : World) (h : Rd encSEdge 5 w a m cap xs) :
    Calls Try.prog 36 #[.agg #[.int .i64 lo, .int .i64 hi, .slice a m cap], .int .i64 x, .int .i64 y] w fun e w' => e = .returned (.tuple #[.int .i64 (windowF lo hi xs x y).1, .int .i64 (windowF lo hi xs x y).2]) ∧ Below w.heap.size w w' := by
  have hL := Lib.hid h.len
  have hm := h.max
  have hle := h.le
  unfold maxLen at hm
  have hb0 := (Below.refl w.heap.size w).alloc (Nat.le_refl _) (.cells #[.int .i64 lo, .int .i64 hi, .slice a m cap] 47)
  cases hg : shardB lo hi xs with
  | false =>
    have HG := Lib.hid hg
    have HR := Lib.hid (windowF_no (lo := lo) (hi := hi) (xs := xs) (x := x) (y := y) (by rw [hg]; simp))
    clear hg
    go_enter Try.func36, Try.ntmps36
    go_wp2_with fail
    refine (shardOk_spec lo hi a m cap xs _ (h.below hb0 (Nat.le_refl _))).mono ?_
    rintro e w1 ⟨rfl, hb1⟩
    rw [HG.out]
    obtain ⟨hc, hf⟩ := bcell hb1
    have c0 : w1.cell? ⟨w.heap.size, 0, none⟩ = some (.int .i64 lo) := by rw [hc _ _ (by simp)]; simp [go_sem]
    have c1 : w1.cell? ⟨w.heap.size, 1, none⟩ = some (.int .i64 hi) := by rw [hc _ _ (by simp)]; simp [go_sem]
    have c2 : w1.cell? ⟨w.heap.size, 2, none⟩ = some (.slice a m cap) := by rw [hc _ _ (by simp)]; simp [go_sem]
    have BB1 := hb0.trans (hb1.mono (by simp))
    have sz1 : w.heap.size < w1.heap.size := by have := hb1.size; simp at this; omega
    clear hc hf hb1
    go_wp2
    go_ret2
    rw [HR.out]
    exact ⟨rfl, BB1⟩
  | true =>
    by_cases hxy : x ≤ y
    · have HG := Lib.hid hg
      have HR := Lib.hid (windowF_yes hg hxy)
      clear hg
      go_enter Try.func36, Try.ntmps36
      go_wp2_with fail
      refine (shardOk_spec lo hi a m cap xs _ (h.below hb0 (Nat.le_refl _))).mono ?_
      rintro e w1 ⟨rfl, hb1⟩
      rw [HG.out]
      obtain ⟨hc, hf⟩ := bcell hb1
      have c0 : w1.cell? ⟨w.heap.size, 0, none⟩ = some (.int .i64 lo) := by rw [hc _ _ (by simp)]; simp [go_sem]
      have c1 : w1.cell? ⟨w.heap.size, 1, none⟩ = some (.int .i64 hi) := by rw [hc _ _ (by simp)]; simp [go_sem]
      have c2 : w1.cell? ⟨w.heap.size, 2, none⟩ = some (.slice a m cap) := by rw [hc _ _ (by simp)]; simp [go_sem]
      have BB1 := hb0.trans (hb1.mono (by simp))
      have sz1 : w.heap.size < w1.heap.size := by have := hb1.size; simp at this; omega
      clear hc hf hb1
      go_wp2
      go_loopw [8, 9, 23] (fun c d i wr => ∃ k : Nat, k ≤ m ∧ i = .int .i64 k ∧ c = .int .i64 (cntS (frB x) xs k) ∧ d = .int .i64 (cntS (frB y) xs k) ∧ Below w1.heap.size w1 wr) (fun _ _ i _ => m - (intOf i).toNat)
      case atStart => exact ⟨0, Nat.zero_le _, rfl, by go_num, by go_num, Below.refl _ _⟩
      case round =>
        obtain ⟨k, hk, rfl, rfl, rfl, hb⟩ := hrel
        have hz := hb.size
        by_cases hlt : k < m
        · obtain ⟨b1, off1, rfl, hbl1, hc1⟩ := h.rowSEdge (by omega)
          have cb : ∀ o, wr.cell? ⟨b1, o, none⟩ = w.cell? ⟨b1, o, none⟩ := fun o => (hb.cell (p := ⟨b1, o, none⟩) (Nat.lt_of_lt_of_le hbl1 BB1.size)).trans (BB1.cell (p := ⟨b1, o, none⟩) hbl1)
          obtain ⟨k0, k1, k2, k3, k4⟩ := hc1 k hlt
          rw [← cb] at k0 k1 k2 k3 k4
          have hkx : k < xs.length := by rw [hL.out]; exact hlt
          have hi1 : (k : Int) < (m : Int) := by omega
          have n1 := cntS_le (frB x) xs k
          have n2 := cntS_le (frB y) xs k
          have Y1 := Lib.hid (fun hf => cnt_yes (x := x) hkx hf)
          have Y2 := Lib.hid (fun hf => cnt_yes (x := y) hkx hf)
          have N1 := Lib.hid (fun hf => cnt_no (x := x) hkx hf)
          have N2 := Lib.hid (fun hf => cnt_no (x := y) hkx hf)
          have hb3 := fun o => hb.alloc hb.size o
          clear hc1 cb h
          generalize hxx : atSEdge xs k = v at *
          obtain ⟨fr, to, wt, ix, val⟩ := v
          clear hxx
          generalize hc1 : cntS (frB x) xs k = c1 at *
          generalize hc2 : cntS (frB y) xs k = c2 at *
          clear hc1 hc2
          simp only at k0 k1 k2 k3 k4 Y1 Y2 N1 N2
          by_cases f1 : fr < x <;> by_cases f2 : fr < y
          · have E1 := Lib.hid (Y1.out f1)
            have E2 := Lib.hid (Y2.out f2)
            go_wp2
            go_roundw
            case rel => exact ⟨k + 1, by omega, by go_num, by rw [E1.out]; go_num, by rw [E2.out]; go_num, hb3 _⟩
            case measure => simp [intOf]; omega
          · exfalso; omega
          · have E1 := Lib.hid (N1.out (by omega))
            have E2 := Lib.hid (Y2.out f2)
            have f1' : x ≤ fr := by omega
            clear f1
            go_wp2
            go_roundw
            case rel => exact ⟨k + 1, by omega, by go_num, by rw [E1.out], by rw [E2.out]; go_num, hb3 _⟩
            case measure => simp [intOf]; omega
          · have E1 := Lib.hid (N1.out (by omega))
            have E2 := Lib.hid (N2.out (by omega))
            have f1' : x ≤ fr := by omega
            have f2' : y ≤ fr := by omega
            clear f1 f2
            go_wp2
            go_roundw
            case rel => exact ⟨k + 1, by omega, by go_num, by rw [E1.out], by rw [E2.out], hb3 _⟩
            case measure => simp [intOf]; omega
        · obtain rfl : k = m := by omega
          go_wp2
          go_ret2
          rw [HR.out]
          exact ⟨by unfold winF; rw [hL.out] <;> rfl, BB1.trans (hb.mono BB1.size)⟩
    · have HG := Lib.hid hg
      have HR := Lib.hid (windowF_no (lo := lo) (hi := hi) (xs := xs) (x := x) (y := y) (by intro hh; exact hxy hh.2))
      have hxy' : y < x := by omega
      clear hg hxy
      go_enter Try.func36, Try.ntmps36
      go_wp2_with fail
      refine (shardOk_spec lo hi a m cap xs _ (h.below hb0 (Nat.le_refl _))).mono ?_
      rintro e w1 ⟨rfl, hb1⟩
      rw [HG.out]
      obtain ⟨hc, hf⟩ := bcell hb1
      have c0 : w1.cell? ⟨w.heap.size, 0, none⟩ = some (.int .i64 lo) := by rw [hc _ _ (by simp)]; simp [go_sem]
      have c1 : w1.cell? ⟨w.heap.size, 1, none⟩ = some (.int .i64 hi) := by rw [hc _ _ (by simp)]; simp [go_sem]
      have c2 : w1.cell? ⟨w.heap.size, 2, none⟩ = some (.slice a m cap) := by rw [hc _ _ (by simp)]; simp [go_sem]
      have BB1 := hb0.trans (hb1.mono (by simp))
      have sz1 : w.heap.size < w1.heap.size := by have := hb1.size; simp at this; omega
      clear hc hf hb1
      go_wp2
      go_ret2
      rw [HR.out]
      exact ⟨rfl, BB1⟩
end Go.Proofs.Ytifaekkbdmcehaa

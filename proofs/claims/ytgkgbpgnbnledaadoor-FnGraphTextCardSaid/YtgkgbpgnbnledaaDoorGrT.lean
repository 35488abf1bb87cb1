/- GraphText of the program and of the reference. -/
import Derived.Test.YtgkgbpgnbnledaaDoorWords
import Derived.Test.YtgkgbpgnbnledaaDoorGraphOk
import Derived.Test.YtgkgbpgnbnledaaDoorGraphU
namespace Go.Proofs.YtgkgbpgnbnledaaDoor
open Go.RowKit
def eD (e : EdgeR) : EdgeD := (e.fr, e.to, e.wt)
/-- What GraphText says. -/
def graphTextD (n : Int) (xs : List EdgeR) : List UInt8 := if graphB n xs = true then graphL n (xs.map eD) else []
theorem rd_lit3 (w : World) (x y z : Int) (e : TypeId) : Rd (encI .i64) 1 (w.alloc (.cells #[.int .i64 x, .int .i64 y, .int .i64 z] e)) (some ⟨w.heap.size, 0, none⟩) 3 3 [x, y, z] :=
  Rd.of_ints (World.ownsRow_lit (base := w.heap.size) (size := 1) (e := e) w #[.int .i64 x, .int .i64 y, .int .i64 z] 3 (Nat.le_refl _) (by unfold maxLen; omega) rfl) rfl
theorem edgesL_take (xs : List EdgeR) (k : Nat) (h : k < xs.length) : edgesL ((xs.take (k + 1)).map eD) = edgesL ((xs.take k).map eD) ++ (lineL (eD xs[k]) ++ [10]) := by
  rw [List.take_succ_eq_append_getElem h, List.map_append, List.map_cons, List.map_nil, edgesL_snoc]
theorem graphL_take (n : Int) (xs : List EdgeR) (k : Nat) (h : k < xs.length) : graphL n ((xs.take (k + 1)).map eD) = graphL n ((xs.take k).map eD) ++ (lineL (eD xs[k]) ++ [10]) := by
  unfold graphL
  rw [edgesL_take xs k h]
  simp
set_option maxRecDepth 100000 in
set_option maxHeartbeats 3200000 in
theorem graphText_impl (n : Int) (a : Option Addr) (m cap : Nat) (xs : List EdgeR) (w : World) (h : Rd encEdge 3 w a m cap xs) (hn : In64 n) (hx : ∀ x ∈ xs, In64 x.fr ∧ In64 x.to ∧ In64 x.wt) (hp : Pow Tryd.prog w) :
    Calls Tryd.prog 20 #[.agg #[.int .i64 n, .slice a m cap]] w fun e w' => e = .returned (.string (mkB (graphTextD n xs))) ∧ Below w.heap.size w w' := by
  have hL := Lib.hid h.len
  have hm := h.max
  have hle := h.le
  unfold maxLen at hm
  have hb0 := (Below.refl w.heap.size w).alloc (Nat.le_refl _) (.cells #[.int .i64 n, .slice a m cap] 36)
  cases hG : graphB n xs with
  | false =>
    have HT := Lib.hid (show graphTextD n xs = [] by unfold graphTextD; rw [hG]; rfl)
    have HG := Lib.hid hG
    clear hG
    go_enter Tryd.func20, Tryd.ntmps20
    go_wp2_with fail
    refine (graphOk_impl n a m cap xs _ (h.below hb0 (Nat.le_refl _))).mono ?_
    rintro e w1 ⟨rfl, hb1⟩
    rw [HG.out]
    have BB := hb0.trans (hb1.mono (by simp))
    go_wp2
    go_ret
    exact ⟨by rw [HT.out]; rfl, BB⟩
  | true =>
    have HT := Lib.hid (show graphTextD n xs = graphL n (xs.map eD) by unfold graphTextD; rw [hG]; rfl)
    have HG := Lib.hid hG
    have hm4 : m ≤ 400 := by
      unfold graphB at hG
      simp only [Bool.and_eq_true, decide_eq_true_eq] at hG
      rw [← hL.out]
      omega
    clear hG
    have hln := numL_len n
    have s1 : ¬ 9223372036854775807 < (mkB (numL n)).size + 1 := sum_1mk (by omega)
    go_enter Tryd.func20, Tryd.ntmps20
    go_wp2_with fail
    refine (graphOk_impl n a m cap xs _ (h.below hb0 (Nat.le_refl _))).mono ?_
    rintro e w1 ⟨rfl, hb1⟩
    rw [HG.out]
    have B1 := hb0.trans (hb1.mono (by simp))
    have g0 : w1.cell? ⟨w.heap.size, 0, none⟩ = some (.int .i64 n) := by rw [hb1.cell (by simp)]; simp [go_sem]
    have g1 : w1.cell? ⟨w.heap.size, 1, none⟩ = some (.slice a m cap) := by rw [hb1.cell (by simp)]; simp [go_sem]
    go_wp2_with fail
    refine (numText_impl n hn _ (hp.later B1 (Nat.le_refl _))).mono ?_
    rintro e w2 ⟨rfl, hb2⟩
    have B2 := B1.trans (hb2.mono B1.size)
    have hlt1 : w.heap.size < w1.heap.size := by have := hb1.size; simp at this; omega
    have g2 : w2.cell? ⟨w.heap.size, 1, none⟩ = some (.slice a m cap) := by rw [hb2.cell (p := ⟨w.heap.size, 1, none⟩) hlt1]; exact g1
    clear g0 g1
    go_wp2
    go_loopw [3, 16] (fun r i wr => ∃ k : Nat, k ≤ m ∧ r = .string (mkB (graphL n ((xs.take k).map eD))) ∧ i = .int .i64 k ∧ Below w.heap.size w wr) (fun _ i _ => m - (intOf i).toNat)
    case atStart => exact ⟨0, Nat.zero_le _, by rw [mk_lit]; simp [graphL, edgesL], rfl, B2⟩
    case round =>
      obtain ⟨k, hk, rfl, rfl, hb⟩ := hrel
      by_cases hlt : k < m
      · obtain ⟨b1, off1, rfl, hbl1, hc1⟩ := h.edges (by omega)
        have cb : ∀ o, wr.cell? ⟨b1, o, none⟩ = w.cell? ⟨b1, o, none⟩ := fun o => hb.cell (p := ⟨b1, o, none⟩) hbl1
        obtain ⟨k0, k1, k2⟩ := hc1 k hlt
        rw [← cb] at k0 k1 k2
        have hi1 : (k : Int) < (m : Int) := by omega
        have hkx : k < xs.length := by rw [hL.out]; exact hlt
        have HS := Lib.hid (graphL_take n xs k hkx)
        have hin := hx _ (List.getElem_mem hkx)
        have hlen := graphL_len n ((xs.take k).map eD)
        rw [List.length_map, List.length_take] at hlen
        have hlen2 : (graphL n ((xs.take k).map eD)).length ≤ 20000 := by omega
        have hle := lineL_len (eD xs[k])
        have hat : edgeAt xs k = xs[k] := by simp [edgeAt, List.getD, hkx]
        rw [hat] at k0 k1 k2
        generalize xs[k] = x at *
        generalize graphL n ((xs.take k).map eD) = X at *
        have hrd := rd_lit3 (wr.alloc (.cells #[.int .i64 x.fr, .int .i64 x.to, .int .i64 x.wt] 50)) x.fr x.to x.wt 3
        have ha1 := (Below.refl wr.heap.size wr).alloc (Nat.le_refl _) (.cells #[.int .i64 x.fr, .int .i64 x.to, .int .i64 x.wt] 50)
        have ha2 := ha1.alloc ha1.size (.cells #[.int .i64 x.fr, .int .i64 x.to, .int .i64 x.wt] 3)
        have hpa := hp.later (hb.trans (ha2.mono hb.size)) (Nat.le_refl _)
        have cw := words_impl _ 3 3 _ _ hrd (by intro z hz; simp at hz; rcases hz with rfl | rfl | rfl; exact hin.1; exact hin.2.1; exact hin.2.2) (by omega) (by omega) hpa
        have hB3 : Hid (numsB [x.fr, x.to, x.wt] = lineL (eD x)) := Lib.hid (numsB_three (eD x))
        rw [hB3.out] at cw
        have s3 : ¬ 9223372036854775807 < (mkB (lineL (eD x))).size + 1 := sum_1mk (by omega)
        have s4 : ¬ 9223372036854775807 < (mkB X).size + (mkB (lineL (eD x) ++ [10])).size := sum_mk (by rw [List.length_append, List.length_singleton]; omega)
        have e1 := mk_lit 10 (lineL (eD x))
        simp only [World.size_alloc] at cw
        clear hc1 h cb hrd hin hat
        go_wp2_with fail
        refine cw.mono ?_
        rintro e w5 ⟨rfl, hb5⟩
        have hb6 := hb.trans ((ha2.trans (hb5.mono (by omega))).mono hb.size)
        go_wp2
        go_roundw
        case rel => exact ⟨k + 1, by omega, by simp only [HS.out, mkB_app], by go_num, hb6⟩
        case measure => simp [intOf]; omega
      · obtain rfl : k = m := by omega
        have e : xs.take k = xs := List.take_of_length_le (by rw [hL.out]; exact Nat.le_refl _)
        rw [e]
        go_wp2
        go_ret
        exact ⟨by rw [HT.out]; rfl, hb⟩
set_option maxRecDepth 100000 in
set_option maxHeartbeats 3200000 in
theorem graphText_spec (n : Int) (a : Option Addr) (m cap : Nat) (xs : List EdgeR) (w : World) (h : Rd encEdge 3 w a m cap xs) (hn : In64 n) (hx : ∀ x ∈ xs, In64 x.fr ∧ In64 x.to ∧ In64 x.wt) :
    Calls Tryd.prog 18 #[.agg #[.int .i64 n, .slice a m cap]] w fun e w' => e = .returned (.string (mkB (graphTextD n xs))) ∧ Below w.heap.size w w' := by
  have hL := Lib.hid h.len
  have hm := h.max
  have hle := h.le
  unfold maxLen at hm
  have hb0 := (Below.refl w.heap.size w).alloc (Nat.le_refl _) (.cells #[.int .i64 n, .slice a m cap] 36)
  cases hG : graphB n xs with
  | false =>
    have HT := Lib.hid (show graphTextD n xs = [] by unfold graphTextD; rw [hG]; rfl)
    have HG := Lib.hid hG
    clear hG
    go_enter Tryd.func18, Tryd.ntmps18
    go_wp2_with fail
    refine (graphOk_spec n a m cap xs _ (h.below hb0 (Nat.le_refl _))).mono ?_
    rintro e w1 ⟨rfl, hb1⟩
    rw [HG.out]
    have BB := hb0.trans (hb1.mono (by simp))
    go_wp2
    go_ret
    exact ⟨by rw [HT.out]; rfl, BB⟩
  | true =>
    have HT := Lib.hid (show graphTextD n xs = graphL n (xs.map eD) by unfold graphTextD; rw [hG]; rfl)
    have HG := Lib.hid hG
    have hm4 : m ≤ 400 := by
      unfold graphB at hG
      simp only [Bool.and_eq_true, decide_eq_true_eq] at hG
      rw [← hL.out]
      omega
    clear hG
    have hln := numL_len n
    have s1 : ¬ 9223372036854775807 < (mkB (numL n)).size + 1 := sum_1mk (by omega)
    go_enter Tryd.func18, Tryd.ntmps18
    go_wp2_with fail
    refine (graphOk_spec n a m cap xs _ (h.below hb0 (Nat.le_refl _))).mono ?_
    rintro e w1 ⟨rfl, hb1⟩
    rw [HG.out]
    have B1 := hb0.trans (hb1.mono (by simp))
    have g0 : w1.cell? ⟨w.heap.size, 0, none⟩ = some (.int .i64 n) := by rw [hb1.cell (by simp)]; simp [go_sem]
    have g1 : w1.cell? ⟨w.heap.size, 1, none⟩ = some (.slice a m cap) := by rw [hb1.cell (by simp)]; simp [go_sem]
    go_wp2_with fail
    refine (numText_spec n.toNat n (Nat.le_refl _) hn _).mono ?_
    rintro e w2 ⟨rfl, hb2⟩
    have B2 := B1.trans (hb2.mono B1.size)
    have hlt1 : w.heap.size < w1.heap.size := by have := hb1.size; simp at this; omega
    have g2 : w2.cell? ⟨w.heap.size, 1, none⟩ = some (.slice a m cap) := by rw [hb2.cell (p := ⟨w.heap.size, 1, none⟩) hlt1]; exact g1
    clear g0 g1
    go_wp2
    go_loopw [3, 16] (fun r i wr => ∃ k : Nat, k ≤ m ∧ r = .string (mkB (graphL n ((xs.take k).map eD))) ∧ i = .int .i64 k ∧ Below w.heap.size w wr) (fun _ i _ => m - (intOf i).toNat)
    case atStart => exact ⟨0, Nat.zero_le _, by rw [mk_lit]; simp [graphL, edgesL], rfl, B2⟩
    case round =>
      obtain ⟨k, hk, rfl, rfl, hb⟩ := hrel
      by_cases hlt : k < m
      · obtain ⟨b1, off1, rfl, hbl1, hc1⟩ := h.edges (by omega)
        have cb : ∀ o, wr.cell? ⟨b1, o, none⟩ = w.cell? ⟨b1, o, none⟩ := fun o => hb.cell (p := ⟨b1, o, none⟩) hbl1
        obtain ⟨k0, k1, k2⟩ := hc1 k hlt
        rw [← cb] at k0 k1 k2
        have hi1 : (k : Int) < (m : Int) := by omega
        have hkx : k < xs.length := by rw [hL.out]; exact hlt
        have HS := Lib.hid (graphL_take n xs k hkx)
        have hin := hx _ (List.getElem_mem hkx)
        have hlen := graphL_len n ((xs.take k).map eD)
        rw [List.length_map, List.length_take] at hlen
        have hlen2 : (graphL n ((xs.take k).map eD)).length ≤ 20000 := by omega
        have hle := lineL_len (eD xs[k])
        have hat : edgeAt xs k = xs[k] := by simp [edgeAt, List.getD, hkx]
        rw [hat] at k0 k1 k2
        generalize xs[k] = x at *
        generalize graphL n ((xs.take k).map eD) = X at *
        have hrd := rd_lit3 (wr.alloc (.cells #[.int .i64 x.fr, .int .i64 x.to, .int .i64 x.wt] 50)) x.fr x.to x.wt 3
        have ha1 := (Below.refl wr.heap.size wr).alloc (Nat.le_refl _) (.cells #[.int .i64 x.fr, .int .i64 x.to, .int .i64 x.wt] 50)
        have ha2 := ha1.alloc ha1.size (.cells #[.int .i64 x.fr, .int .i64 x.to, .int .i64 x.wt] 3)
        have cw := line_spec _ 3 3 _ _ hrd (by intro z hz; simp at hz; rcases hz with rfl | rfl | rfl; exact hin.1; exact hin.2.1; exact hin.2.2) (by omega)
        have hB3 : Hid (numsB [x.fr, x.to, x.wt] = lineL (eD x)) := Lib.hid (numsB_three (eD x))
        rw [hB3.out] at cw
        have s3 : ¬ 9223372036854775807 < (mkB X).size + (mkB (lineL (eD x))).size := sum_mk (by omega)
        have e1 := mkB_app X (lineL (eD x))
        have s4 : ¬ 9223372036854775807 < (mkB (X ++ lineL (eD x))).size + 1 := sum_1mk (by rw [List.length_append]; omega)
        have e2 := mk_lit 10 (X ++ lineL (eD x))
        simp only [World.size_alloc] at cw
        clear hc1 h cb hrd hin hat
        go_wp2_with fail
        refine cw.mono ?_
        rintro e w5 ⟨rfl, hb5⟩
        have hb6 := hb.trans ((ha2.trans (hb5.mono (by omega))).mono hb.size)
        go_wp2
        go_roundw
        case rel => exact ⟨k + 1, by omega, by simp only [HS.out], by go_num, hb6⟩
        case measure => simp [intOf]; omega
      · obtain rfl : k = m := by omega
        have e : xs.take k = xs := List.take_of_length_le (by rw [hL.out]; exact Nat.le_refl _)
        rw [e]
        go_wp2
        go_ret
        exact ⟨by rw [HT.out]; rfl, hb⟩
end Go.Proofs.YtgkgbpgnbnledaaDoor

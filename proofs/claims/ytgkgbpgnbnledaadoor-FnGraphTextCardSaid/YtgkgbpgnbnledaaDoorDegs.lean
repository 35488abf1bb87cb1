/- InDegs and OutDegs: what they compute. -/
import Derived.Test.YtgkgbpgnbnledaaDoorGraphOkU
import Derived.Test.YtgkgbpgnbnledaaDoorIntM
import Derived.Test.YtgkgbpgnbnledaaDoorIntS
import Derived.Test.YtgkgbpgnbnledaaDoorDegP
namespace Go.Proofs.YtgkgbpgnbnledaaDoor
open Go.RowKit
theorem graphB_yes {n : Int} {xs : List EdgeR} (h : graphB n xs = true) : 0 ≤ n ∧ n ≤ 150 ∧ xs.length ≤ 400 ∧ ∀ k, k < xs.length → edgeB n (edgeAt xs k) = true := by
  simp [graphB] at h
  obtain ⟨⟨⟨h1, h2⟩, h3⟩, h4⟩ := h
  exact ⟨h1, h2, h3, fun k hk => by rw [edgeAt_eq xs k hk]; exact h4 _ (List.getElem_mem hk)⟩
def degI (f : EdgeR → Int) (xs : List EdgeR) : List Nat := xs.map fun e => (f e).toNat
def degG (f : EdgeR → Int) (n : Int) (xs : List EdgeR) : List Int := if graphB n xs then tally n.toNat (degI f xs) else []
theorem degG_no {f : EdgeR → Int} {n : Int} {xs : List EdgeR} (h : graphB n xs = false) : degG f n xs = [] := by simp [degG, h]
theorem degG_yes {f : EdgeR → Int} {n : Nat} {xs : List EdgeR} (h : graphB n xs = true) : degG f n xs = tally n (degI f xs) := by simp [degG, h]
theorem degI_snoc (f : EdgeR → Int) (xs : List EdgeR) (k : Nat) (h : k < xs.length) : degI f (xs.take (k + 1)) = degI f (xs.take k) ++ [(f (edgeAt xs k)).toNat] := by
  unfold degI
  rw [List.take_succ_eq_append_getElem h, edgeAt_eq xs k h, List.map_append]; rfl
theorem tally_own {w : World} {B g N : Nat} {e : TypeId} {is : List Nat} {T : Nat} (hT : T < N) (h : w.ownsRow B e 1 (.slice (some ⟨g, 0, none⟩) N N) N ((tally N is).map (Value.int .i64))) :
    w.cell? ⟨g, T, none⟩ = some (.int .i64 ((tally N is).getD T 0)) := by
  rw [h.cellAt T (by omega), List.getElem?_map]
  have : T < (tally N is).length := by rw [tally_len]; exact hT
  simp [List.getD, this]
theorem tally_set (N : Nat) (is : List Nat) (T : Nat) : ((tally N is).map (Value.int .i64)).set T (.int .i64 ((tally N is).getD T 0 + 1)) = (tally N (is ++ [T])).map (Value.int .i64) := by
  rw [tally_snoc, ← List.map_set]; rfl
set_option maxRecDepth 100000 in
set_option maxHeartbeats 1600000 in
theorem inDegs_impl (n : Int) (a : Option Addr) (m cap : Nat) (xs : List EdgeR) (w : World) (h : Rd encEdge 3 w a m cap xs) :
    Calls Tryd.prog 29 #[.agg #[.int .i64 n, .slice a m cap]] w fun e w' => RetL .i64 3 (degG EdgeR.to n xs) w e w' := by
  have hL := Lib.hid h.len
  have hm := h.max
  have hle := h.le
  unfold maxLen at hm
  have hb0 := (Below.refl w.heap.size w).alloc (Nat.le_refl _) (.cells #[.int .i64 n, .slice a m cap] 36)
  cases hg : graphB n xs with
  | false =>
    have HG := Lib.hid hg
    have HR := Lib.hid (degG_no (f := EdgeR.to) hg)
    clear hg
    go_enter Tryd.func29, Tryd.ntmps29
    go_wp2_with fail
    refine (graphOk_impl n a m cap xs _ (h.below hb0 (Nat.le_refl _))).mono ?_
    rintro e w1 ⟨rfl, hb1⟩
    rw [HG.out]
    go_wp2
    go_ret
    rw [HR.out]
    have BB1 := hb0.trans (hb1.mono (by simp))
    exact ⟨none, 0, 0, rfl, (OwnI.nil _ _ _ _), BB1⟩
  | true =>
    obtain ⟨q1, q2, q3, q4⟩ := graphB_yes hg
    obtain ⟨N, rfl⟩ := Int.eq_ofNat_of_zero_le q1
    have HE := Lib.hid q4
    have HR := Lib.hid (degG_yes (f := EdgeR.to) hg)
    have HG := Lib.hid hg
    rw [hL.out] at q3
    clear hg q4
    obtain ⟨i0, hi, hz0, hz1, hz2⟩ := info_parts infoIntS
    go_enter Tryd.func29, Tryd.ntmps29
    go_wp2_with fail
    refine (graphOk_impl _ a m cap xs _ (h.below hb0 (Nat.le_refl _))).mono ?_
    rintro e w1 ⟨rfl, hb1⟩
    rw [HG.out]
    obtain ⟨hc, hf⟩ := bcell hb1
    have c0 : w1.cell? ⟨w.heap.size, 0, none⟩ = some (.int .i64 N) := by rw [hc _ _ (by simp)]; simp [go_sem]
    have c1 : w1.cell? ⟨w.heap.size, 1, none⟩ = some (.slice a m cap) := by rw [hc _ _ (by simp)]; simp [go_sem]
    have BB1 := hb0.trans (hb1.mono (by simp))
    have sz1 : w.heap.size < w1.heap.size := by have := hb1.size; simp at this; omega
    clear hc hf hb1
    go_wp2_with (at_make; refine wpList_make_full _ rfl _ _ 47 rfl w1.heap.size 3 i0 (.int .i64 0) 1 Tryd.underlying47 hi hz0 hz1 _ _ _ _ N rfl rfl rfl rfl ?b1 ?b2 ?b3 ?_)
    case b1 => rw [hz2]; omega
    case b2 => unfold maxLen; omega
    case b3 => simp
    intro w2 hown hgrow
    have hbel := below_grown hgrow (Nat.le_refl _) (by simp)
    have d0 := cell_later hbel c0
    have d1 := cell_later hbel c1
    have hown1 : w2.ownsRow w1.heap.size 3 1 (.slice (some ⟨w1.heap.size, 0, none⟩) N N) N ((tally N (degI EdgeR.to (xs.take 0))).map (.int .i64)) := by
      simpa [toList_madeCells_one, tally, degI, Value.cells] using hown
    have hbig := hown1.lt _ rfl
    clear hown hgrow hi hz0 hz1 hz2 c0 c1
    go_wp2
    go_loopw [15] (fun i wr => ∃ k : Nat, k ≤ m ∧ i = .int .i64 k ∧ wr.ownsRow w1.heap.size 3 1 (.slice (some ⟨w1.heap.size, 0, none⟩) N N) N ((tally N (degI EdgeR.to (xs.take k))).map (.int .i64)) ∧ Below w1.heap.size w1 wr) (fun i _ => m - (intOf i).toNat)
    case atStart => exact ⟨0, Nat.zero_le _, rfl, hown1, hbel⟩
    case round =>
      obtain ⟨k, hk, rfl, ho, hb⟩ := hrel
      clear hown1 hbel d0 d1 hbig
      by_cases hlt : k < m
      · obtain ⟨b1, off1, rfl, hbl1, hc1⟩ := h.edges (by omega)
        have cb : ∀ o, wr.cell? ⟨b1, o, none⟩ = w.cell? ⟨b1, o, none⟩ := fun o => (hb.cell (p := ⟨b1, o, none⟩) (Nat.lt_of_lt_of_le hbl1 BB1.size)).trans (BB1.cell (p := ⟨b1, o, none⟩) hbl1)
        obtain ⟨k0, k1, k2⟩ := hc1 k hlt
        rw [← cb] at k0 k1 k2
        have hkx : k < xs.length := by rw [hL.out]; exact hlt
        obtain ⟨r1, r2, r3, r4, r5, r6⟩ := edgeB_yes (HE.out k hkx)
        have HS := Lib.hid (degI_snoc EdgeR.to xs k hkx)
        have hbig := (ho.lt _ rfl).2
        have hi1 : (k : Int) < (m : Int) := by omega
        clear hc1 cb h
        generalize edgeAt xs k = x at *
        obtain ⟨fr, to, wt⟩ := x
        simp only at k0 k1 k2 r1 r2 r3 r4 r5 r6 HS
        obtain ⟨T, rfl⟩ := Int.eq_ofNat_of_zero_le r3
        have hTN : T < N := by omega
        have hcell := tally_own hTN ho
        have hbd := tally_bd N (degI EdgeR.to (xs.take k)) T
        have hlen : (degI EdgeR.to (xs.take k)).length ≤ 400 := by simp [degI]; omega
        have hset := tally_set N (degI EdgeR.to (xs.take k)) T
        have hfr := ho.frozenAt T
        have st := Lib.hid (ho.stored T (.int .i64 ((tally N (degI EdgeR.to (xs.take k))).getD T 0 + 1))).1
        rw [hset] at st
        have st := Lib.hid st.out
        clear ho
        generalize (tally N (degI EdgeR.to (xs.take k))).getD T 0 = V at *
        have v0 : 0 ≤ V := hbd.1
        have v1 : V ≤ 400 := by omega
        have hbo := fun o => (hb.setCell (p := ⟨w1.heap.size, T, none⟩) (Nat.le_refl _) (.int .i64 (V + 1))).alloc (by rw [size_set]; exact hb.size) o
        clear hbd hset hlen
        go_wp2
        go_roundw
        case rel => exact ⟨k + 1, by omega, by go_num, by rw [HS.out, Int.toNat_natCast]; exact st.out.alloc _, hbo _⟩
        case measure => simp [intOf]; omega
      · obtain rfl : k = m := by omega
        rw [List.take_of_length_le (by rw [hL.out]; exact Nat.le_refl _)] at ho
        go_wp2
        go_ret
        rw [HR.out]
        exact ⟨some ⟨w1.heap.size, 0, none⟩, N, N, rfl, (OwnI.of ho (tally_len _ _) (by omega)).lo_le BB1.size, BB1.trans (hb.mono BB1.size)⟩
theorem inDegs_impl_u (y : GraphR) (D : Int × List EdgeR) (hD : datGraph y = D) (w : World) (g : goodGraph w y) :
    Calls Tryd.prog 29 #[.agg #[.int .i64 y.n, .slice y.edgesA y.edgesN y.edgesC]] w fun e w' => RetL .i64 3 (degG EdgeR.to D.1 D.2) w e w' := by
  subst hD
  exact inDegs_impl _ _ _ _ _ _ g.2.1
set_option maxRecDepth 100000 in
set_option maxHeartbeats 1600000 in
theorem outDegs_impl (n : Int) (a : Option Addr) (m cap : Nat) (xs : List EdgeR) (w : World) (h : Rd encEdge 3 w a m cap xs) :
    Calls Tryd.prog 30 #[.agg #[.int .i64 n, .slice a m cap]] w fun e w' => RetL .i64 3 (degG EdgeR.fr n xs) w e w' := by
  have hL := Lib.hid h.len
  have hm := h.max
  have hle := h.le
  unfold maxLen at hm
  have hb0 := (Below.refl w.heap.size w).alloc (Nat.le_refl _) (.cells #[.int .i64 n, .slice a m cap] 36)
  cases hg : graphB n xs with
  | false =>
    have HG := Lib.hid hg
    have HR := Lib.hid (degG_no (f := EdgeR.fr) hg)
    clear hg
    go_enter Tryd.func30, Tryd.ntmps30
    go_wp2_with fail
    refine (graphOk_impl n a m cap xs _ (h.below hb0 (Nat.le_refl _))).mono ?_
    rintro e w1 ⟨rfl, hb1⟩
    rw [HG.out]
    go_wp2
    go_ret
    rw [HR.out]
    have BB1 := hb0.trans (hb1.mono (by simp))
    exact ⟨none, 0, 0, rfl, (OwnI.nil _ _ _ _), BB1⟩
  | true =>
    obtain ⟨q1, q2, q3, q4⟩ := graphB_yes hg
    obtain ⟨N, rfl⟩ := Int.eq_ofNat_of_zero_le q1
    have HE := Lib.hid q4
    have HR := Lib.hid (degG_yes (f := EdgeR.fr) hg)
    have HG := Lib.hid hg
    rw [hL.out] at q3
    clear hg q4
    obtain ⟨i0, hi, hz0, hz1, hz2⟩ := info_parts infoIntS
    go_enter Tryd.func30, Tryd.ntmps30
    go_wp2_with fail
    refine (graphOk_impl _ a m cap xs _ (h.below hb0 (Nat.le_refl _))).mono ?_
    rintro e w1 ⟨rfl, hb1⟩
    rw [HG.out]
    obtain ⟨hc, hf⟩ := bcell hb1
    have c0 : w1.cell? ⟨w.heap.size, 0, none⟩ = some (.int .i64 N) := by rw [hc _ _ (by simp)]; simp [go_sem]
    have c1 : w1.cell? ⟨w.heap.size, 1, none⟩ = some (.slice a m cap) := by rw [hc _ _ (by simp)]; simp [go_sem]
    have BB1 := hb0.trans (hb1.mono (by simp))
    have sz1 : w.heap.size < w1.heap.size := by have := hb1.size; simp at this; omega
    clear hc hf hb1
    go_wp2_with (at_make; refine wpList_make_full _ rfl _ _ 47 rfl w1.heap.size 3 i0 (.int .i64 0) 1 Tryd.underlying47 hi hz0 hz1 _ _ _ _ N rfl rfl rfl rfl ?b1 ?b2 ?b3 ?_)
    case b1 => rw [hz2]; omega
    case b2 => unfold maxLen; omega
    case b3 => simp
    intro w2 hown hgrow
    have hbel := below_grown hgrow (Nat.le_refl _) (by simp)
    have d0 := cell_later hbel c0
    have d1 := cell_later hbel c1
    have hown1 : w2.ownsRow w1.heap.size 3 1 (.slice (some ⟨w1.heap.size, 0, none⟩) N N) N ((tally N (degI EdgeR.fr (xs.take 0))).map (.int .i64)) := by
      simpa [toList_madeCells_one, tally, degI, Value.cells] using hown
    have hbig := hown1.lt _ rfl
    clear hown hgrow hi hz0 hz1 hz2 c0 c1
    go_wp2
    go_loopw [15] (fun i wr => ∃ k : Nat, k ≤ m ∧ i = .int .i64 k ∧ wr.ownsRow w1.heap.size 3 1 (.slice (some ⟨w1.heap.size, 0, none⟩) N N) N ((tally N (degI EdgeR.fr (xs.take k))).map (.int .i64)) ∧ Below w1.heap.size w1 wr) (fun i _ => m - (intOf i).toNat)
    case atStart => exact ⟨0, Nat.zero_le _, rfl, hown1, hbel⟩
    case round =>
      obtain ⟨k, hk, rfl, ho, hb⟩ := hrel
      clear hown1 hbel d0 d1 hbig
      by_cases hlt : k < m
      · obtain ⟨b1, off1, rfl, hbl1, hc1⟩ := h.edges (by omega)
        have cb : ∀ o, wr.cell? ⟨b1, o, none⟩ = w.cell? ⟨b1, o, none⟩ := fun o => (hb.cell (p := ⟨b1, o, none⟩) (Nat.lt_of_lt_of_le hbl1 BB1.size)).trans (BB1.cell (p := ⟨b1, o, none⟩) hbl1)
        obtain ⟨k0, k1, k2⟩ := hc1 k hlt
        rw [← cb] at k0 k1 k2
        have hkx : k < xs.length := by rw [hL.out]; exact hlt
        obtain ⟨r1, r2, r3, r4, r5, r6⟩ := edgeB_yes (HE.out k hkx)
        have HS := Lib.hid (degI_snoc EdgeR.fr xs k hkx)
        have hbig := (ho.lt _ rfl).2
        have hi1 : (k : Int) < (m : Int) := by omega
        clear hc1 cb h
        generalize edgeAt xs k = x at *
        obtain ⟨fr, to, wt⟩ := x
        simp only at k0 k1 k2 r1 r2 r3 r4 r5 r6 HS
        obtain ⟨T, rfl⟩ := Int.eq_ofNat_of_zero_le r1
        have hTN : T < N := by omega
        have hcell := tally_own hTN ho
        have hbd := tally_bd N (degI EdgeR.fr (xs.take k)) T
        have hlen : (degI EdgeR.fr (xs.take k)).length ≤ 400 := by simp [degI]; omega
        have hset := tally_set N (degI EdgeR.fr (xs.take k)) T
        have hfr := ho.frozenAt T
        have st := Lib.hid (ho.stored T (.int .i64 ((tally N (degI EdgeR.fr (xs.take k))).getD T 0 + 1))).1
        rw [hset] at st
        have st := Lib.hid st.out
        clear ho
        generalize (tally N (degI EdgeR.fr (xs.take k))).getD T 0 = V at *
        have v0 : 0 ≤ V := hbd.1
        have v1 : V ≤ 400 := by omega
        have hbo := fun o => (hb.setCell (p := ⟨w1.heap.size, T, none⟩) (Nat.le_refl _) (.int .i64 (V + 1))).alloc (by rw [size_set]; exact hb.size) o
        clear hbd hset hlen
        go_wp2
        go_roundw
        case rel => exact ⟨k + 1, by omega, by go_num, by rw [HS.out, Int.toNat_natCast]; exact st.out.alloc _, hbo _⟩
        case measure => simp [intOf]; omega
      · obtain rfl : k = m := by omega
        rw [List.take_of_length_le (by rw [hL.out]; exact Nat.le_refl _)] at ho
        go_wp2
        go_ret
        rw [HR.out]
        exact ⟨some ⟨w1.heap.size, 0, none⟩, N, N, rfl, (OwnI.of ho (tally_len _ _) (by omega)).lo_le BB1.size, BB1.trans (hb.mono BB1.size)⟩
theorem outDegs_impl_u (y : GraphR) (D : Int × List EdgeR) (hD : datGraph y = D) (w : World) (g : goodGraph w y) :
    Calls Tryd.prog 30 #[.agg #[.int .i64 y.n, .slice y.edgesA y.edgesN y.edgesC]] w fun e w' => RetL .i64 3 (degG EdgeR.fr D.1 D.2) w e w' := by
  subst hD
  exact outDegs_impl _ _ _ _ _ _ g.2.1
end Go.Proofs.YtgkgbpgnbnledaaDoor

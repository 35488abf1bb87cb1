/- Cut of the program and of the reference: what they compute. -/
import Derived.Test.YtifaekkbdmcehaaDegs
import Derived.Test.YtifaekkbdmcehaaOut
namespace Go.Proofs.Ytifaekkbdmcehaa
open Go.RowKit
def cutG (n : Int) (xs : List EdgeR) (b : Int) : List Int := if graphB n xs = true ∧ 1 ≤ b ∧ b ≤ 400 then cutL b (tally n.toNat (degI EdgeR.to xs)) else []
theorem cutG_no {n : Int} {xs : List EdgeR} {b : Int} (h : ¬ (graphB n xs = true ∧ 1 ≤ b ∧ b ≤ 400)) : cutG n xs b = [] := if_neg h
theorem cutG_yes {n : Nat} {xs : List EdgeR} {b : Int} (h : graphB n xs = true) (h1 : 1 ≤ b) (h2 : b ≤ 400) : cutG n xs b = cutL b (tally n (degI EdgeR.to xs)) := if_pos ⟨h, h1, h2⟩
/-- What the reference has still to write in front of vertex k, sm in hand. -/
def stF (b : Int) (D : List Int) (k : Nat) (sm : Int) : List Int := if k = 0 then cutL b D else cutF b sm k (D.drop k)
theorem stF_zero (b : Int) (D : List Int) (sm : Int) : stF b D 0 sm = cutL b D := if_pos rfl
theorem stF_pos (b : Int) (D : List Int) {k : Nat} (h : 0 < k) (sm : Int) : stF b D k sm = cutF b sm k (D.drop k) := if_neg (by omega)
theorem step_first {b : Int} {D ys : List Int} {sm : Int} (h : 0 < D.length) (he : ys ++ stF b D 0 sm = cutL b D) : ys ++ stF b D 1 (0 + D.getD 0 0) = cutL b D := by
  rw [stF_pos _ _ (by omega), Int.zero_add, ← cutL_start b h, ← he, stF_zero]
  rw [stF_zero] at he
  exact he.symm ▸ he
theorem step_over {b : Int} {D ys : List Int} {k : Nat} {sm : Int} (h : k < D.length) (h0 : 0 < k) (hs : b < sm + D.getD k 0) (he : ys ++ stF b D k sm = cutL b D) : (ys ++ [(k : Int)]) ++ stF b D (k + 1) (0 + D.getD k 0) = cutL b D := by
  rw [stF_pos _ _ (by omega), Int.zero_add, List.append_assoc]
  rw [stF_pos _ _ h0, cutF_over h hs] at he
  exact he
theorem step_in {b : Int} {D ys : List Int} {k : Nat} {sm : Int} (h : k < D.length) (h0 : 0 < k) (hs : sm + D.getD k 0 ≤ b) (he : ys ++ stF b D k sm = cutL b D) : ys ++ stF b D (k + 1) (sm + D.getD k 0) = cutL b D := by
  rw [stF_pos _ _ (by omega)]
  rw [stF_pos _ _ h0, cutF_in h hs] at he
  exact he
theorem end_pos {b : Int} {D ys : List Int} {sm : Int} (h0 : 0 < D.length) (he : ys ++ stF b D D.length sm = cutL b D) : ys ++ [(D.length : Int)] = cutL b D := by
  rw [stF_pos _ _ h0, cutF_end] at he
  exact he
theorem end_zero {b : Int} {D ys : List Int} {sm : Int} (h0 : D.length = 0) (he : ys ++ stF b D 0 sm = cutL b D) : ys = cutL b D := by
  obtain rfl : D = [] := List.eq_nil_of_length_eq_zero h0
  rw [stF_zero] at he
  simpa [cutL] using he
theorem in_start {b : Int} {D ys : List Int} {v : Nat} (h : v < D.length) (he : ys ++ cutRest b D v = cutL b D) : ys ++ cutF b (D.getD v 0) (v + 1) (D.drop (v + 1)) = cutL b D := by
  rw [cutRest_lt b h] at he; exact he
theorem in_step {b sm : Int} {D ys : List Int} {u : Nat} (h : u < D.length) (hs : sm + D.getD u 0 ≤ b) (he : ys ++ cutF b sm u (D.drop u) = cutL b D) : ys ++ cutF b (sm + D.getD u 0) (u + 1) (D.drop (u + 1)) = cutL b D := by
  rw [cutF_in h hs] at he; exact he
theorem in_end {b sm : Int} {D ys : List Int} {u : Nat} (h : u ≤ D.length) (hs : u < D.length → b < sm + D.getD u 0) (he : ys ++ cutF b sm u (D.drop u) = cutL b D) : (ys ++ [(u : Int)]) ++ cutRest b D u = cutL b D := by
  rw [cutF_rest h hs] at he; rw [List.append_assoc]; exact he
set_option maxRecDepth 100000 in
set_option maxHeartbeats 1600000 in
theorem cut_impl (n : Int) (a : Option Addr) (m cap : Nat) (xs : List EdgeR) (b : Int) (w : World) (h : Rd encEdge 3 w a m cap xs) (g1 : In64 b) :
    Calls Try.prog 47 #[.agg #[.int .i64 n, .slice a m cap], .int .i64 b] w fun e w' => RetL .i64 3 (cutG n xs b) w e w' := by
  have hL := Lib.hid h.len
  have hm := h.max
  have hle := h.le
  unfold maxLen at hm
  unfold In64 at g1
  have hb0 := (Below.refl w.heap.size w).alloc (Nat.le_refl _) (.cells #[.int .i64 n, .slice a m cap] 36)
  cases hg : graphB n xs with
  | false =>
    have HG := Lib.hid hg
    have HR := Lib.hid (cutG_no (n := n) (xs := xs) (b := b) (by rw [hg]; simp))
    clear hg
    go_enter Try.func47, Try.ntmps47
    go_wp2_with fail
    refine (graphOk_impl n a m cap xs _ (h.below hb0 (Nat.le_refl _))).mono ?_
    rintro e w1 ⟨rfl, hb1⟩
    rw [HG.out]
    go_wp2
    go_ret
    rw [HR.out]
    have BB1 := hb0.trans (hb1.mono (by simp))
    exact ⟨none, 0, 0, rfl, (OwnI.nil _ _ _ _), BB1⟩
  | true =>
    by_cases hbb : 1 ≤ b ∧ b ≤ 400
    · obtain ⟨p1, p2⟩ := hbb
      obtain ⟨q1, q2, q3, q4⟩ := graphB_yes hg
      obtain ⟨N, rfl⟩ := Int.eq_ofNat_of_zero_le q1
      have HR := Lib.hid (cutG_yes hg p1 p2)
      have HDG := Lib.hid (degG_yes (f := EdgeR.to) hg)
      have HG := Lib.hid hg
      rw [hL.out] at q3
      clear hg q4
      obtain ⟨i0, hi, hz0, hz1, hz2⟩ := info_parts infoIntS
      go_enter Try.func47, Try.ntmps47
      go_wp2_with fail
      refine (graphOk_impl _ a m cap xs _ (h.below hb0 (Nat.le_refl _))).mono ?_
      rintro e w1 ⟨rfl, hb1⟩
      rw [HG.out]
      obtain ⟨hc, hf⟩ := bcell hb1
      have c0 : w1.cell? ⟨w.heap.size, 0, none⟩ = some (.int .i64 N) := by rw [hc _ _ (by simp)]; simp [go_sem]
      have c1 : w1.cell? ⟨w.heap.size, 1, none⟩ = some (.slice a m cap) := by rw [hc _ _ (by simp)]; simp [go_sem]
      have BB1 := hb0.trans (hb1.mono (by simp))
      have sz1 : w.heap.size < w1.heap.size := by have := hb1.size; simp at this; omega
      clear hc hf hb1
      go_wp2_with fail
      refine (inDegs_impl N a m cap xs _ (h.below BB1 (Nat.le_refl _))).mono ?_
      rintro e w2 ⟨da, dn, dc, rfl, hD, hb2⟩
      rw [HDG.out] at hD
      have hbd0 := fun j => tally_bd N (degI EdgeR.to xs) j
      have hln : (degI EdgeR.to xs).length ≤ 400 := by simp [degI, hL.out]; omega
      have HBD := Lib.hid (fun j => (⟨(hbd0 j).1, by have := (hbd0 j).2; omega⟩ : 0 ≤ (tally N (degI EdgeR.to xs)).getD j 0 ∧ (tally N (degI EdgeR.to xs)).getD j 0 ≤ 400))
      have hDL := tally_len N (degI EdgeR.to xs)
      generalize tally N (degI EdgeR.to xs) = D at *
      clear hbd0 hln
      obtain rfl : dn = N := by rw [← hD.len, hDL]
      have HDL := Lib.hid hDL
      have d0 := cell_later hb2 c0
      have BB2 := BB1.trans (hb2.mono BB1.size)
      have sz2 : w.heap.size < w2.heap.size := Nat.lt_of_lt_of_le sz1 hb2.size
      have hDr := hD.rd
      clear hD hDL hb2
      clear c0 c1
      go_wp2
      go_loopw [6, 7, 8] (fun t v _ wr => ∃ (A : Option Addr) (r C u : Nat) (ys : List Int), u ≤ dn ∧ v = .int .i64 u ∧ t = .slice A r C ∧ wr.ownsRow w2.heap.size 3 1 (.slice A r C) r (ys.map (.int .i64)) ∧ ys.length = r ∧ r ≤ u ∧ ys ++ cutRest b D u = cutL b D ∧ Below w2.heap.size w2 wr) (fun _ v _ _ => dn - (intOf v).toNat)
      case atStart => exact ⟨none, 0, 0, 0, [], Nat.zero_le _, rfl, rfl, World.ownsRow_nil _ _ _ _, rfl, Nat.le_refl _, by rw [cutRest_zero]; rfl, Below.refl _ _⟩
      case round =>
        obtain ⟨A, r, C, u, ys, hu, rfl, rfl, ho, hyl, hr, he, hb⟩ := hrel
        have HE := Lib.hid he
        have HYL := Lib.hid hyl
        clear he hyl
        have e0 := cell_later hb d0
        have szr := hb.size
        by_cases hlt : u < dn
        · obtain ⟨gd, od, rfl, hgl, hcd⟩ := hDr.ints (by omega)
          have HCD : Hid (∀ j, j < dn → wr.cell? ⟨gd, od + j, none⟩ = some (.int .i64 (D[j]?.getD 0))) := Lib.hid (fun j hj => (hb.cell (p := ⟨gd, od + j, none⟩) hgl).trans (by simpa [List.getD] using hcd j hj))
          have HST := Lib.hid (in_start (by rw [HDL.out]; exact hlt) HE.out)
          obtain ⟨v0, v1⟩ := HBD.out u
          have k0 := HCD.out u hlt
          clear hcd d0
          have HGD : Hid (∀ j, D[j]?.getD 0 = D.getD j 0) := Lib.hid (fun j => by simp [List.getD])
          rw [HGD.out u] at k0
          generalize D.getD u 0 = d at *
          go_wp2
          clear k0
          obtain ⟨wo, rfl⟩ : ∃ wo : World, wo = wr := ⟨_, rfl⟩
          go_loop [7, 8] (fun v s => ∃ (q : Nat) (sm : Int), u < q ∧ q ≤ dn ∧ v = .int .i64 q ∧ s = .int .i64 sm ∧ 0 ≤ sm ∧ sm ≤ 400 * q ∧ ys ++ cutF b sm q (D.drop q) = cutL b D) (fun v _ => dn - (intOf v).toNat)
          case atStart => exact ⟨u + 1, d, by omega, by omega, by go_num, rfl, v0, by omega, HST.out⟩
          case round =>
            obtain ⟨q, sm, hq1, hq2, rfl, rfl, s0, s1, hes⟩ := hrel
            have HES := Lib.hid hes
            clear hes HST v0 v1
            by_cases hqn : q < dn
            · have k1 := HCD.out q hqn
              rw [HGD.out q] at k1
              obtain ⟨v0, v1⟩ := HBD.out q
              have HI := Lib.hid (fun hs => in_step (by rw [HDL.out]; exact hqn) hs HES.out)
              have HO := Lib.hid (fun hs => in_end (by rw [HDL.out]; exact hq2) (fun _ => hs) HES.out)
              generalize D.getD q 0 = d2 at *
              by_cases hs : sm + d2 ≤ b
              · have HI2 := Lib.hid (HI.out hs)
                clear HI HO
                go_wp2
                go_round
                case rel => exact ⟨q + 1, sm + d2, by omega, by omega, by go_num, rfl, by omega, by omega, HI2.out⟩
                case measure => simp [intOf]; omega
              · have hs' : b < sm + d2 := by omega
                have HO2 := Lib.hid (HO.out hs')
                clear HI HO hs
                go_wp2_with (at_builtin; refine app_any rfl _ _ 51 rfl w2.heap.size 3 Try.underlying51 hi hz0 hz1 hz2 rfl (by decide) A r C (ys.map (.int .i64)) rfl (ho.alloc _) (some ⟨wo.heap.size, 0, none⟩) 1 1 [.int .i64 (q : Int)] rfl rfl (one_news _ _ _) (fun hh => by cases hh) (int_one _ _) ?c4 ?c5 ?c6 ?_)
                case c4 => unfold maxLen; omega
                case c5 => omega
                case c6 => first | omega | (simp; omega)
                intro A2 C2 w4 ho2 hb4
                have hb5 := (hb.alloc szr (.cells #[.int .i64 (q : Int)] 3)).trans hb4
                go_wp2
                go_roundw
                case rel => exact ⟨A2, r + 1, C2, q, ys ++ [(q : Int)], by omega, rfl, rfl, by rw [List.map_append]; exact ho2, by rw [List.length_append, HYL.out]; rfl, by omega, HO2.out, hb5⟩
                case measure => simp [intOf]; omega
            · obtain rfl : q = dn := by omega
              have HO2 := Lib.hid (in_end (by rw [HDL.out]; exact Nat.le_refl _) (fun hh => by rw [HDL.out] at hh; omega) HES.out)
              go_wp2_with (at_builtin; refine app_any rfl _ _ 51 rfl w2.heap.size 3 Try.underlying51 hi hz0 hz1 hz2 rfl (by decide) A r C (ys.map (.int .i64)) rfl (ho.alloc _) (some ⟨wo.heap.size, 0, none⟩) 1 1 [.int .i64 (q : Int)] rfl rfl (one_news _ _ _) (fun hh => by cases hh) (int_one _ _) ?e4 ?e5 ?e6 ?_)
              case e4 => unfold maxLen; omega
              case e5 => omega
              case e6 => first | omega | (simp; omega)
              intro A2 C2 w4 ho2 hb4
              have hb5 := (hb.alloc szr (.cells #[.int .i64 (q : Int)] 3)).trans hb4
              go_wp2
              go_roundw
              case rel => exact ⟨A2, r + 1, C2, q, ys ++ [(q : Int)], by omega, rfl, rfl, by rw [List.map_append]; exact ho2, by rw [List.length_append, HYL.out]; rfl, by omega, HO2.out, hb5⟩
              case measure => simp [intOf]; omega
        · obtain rfl : u = dn := by omega
          have HF : Hid (ys = cutL b D) := Lib.hid (by have := HE.out; rw [show cutRest b D u = [] from by rw [← HDL.out]; exact cutRest_end b D, List.append_nil] at this; exact this)
          go_wp2
          go_ret
          rw [HR.out, ← HF.out]
          exact ⟨A, r, C, rfl, (OwnI.of ho HYL.out (by omega)).lo_le BB2.size, BB2.trans (hb.mono BB2.size)⟩
    · have HG := Lib.hid hg
      have HR := Lib.hid (cutG_no (n := n) (xs := xs) (b := b) (fun hh => hbb hh.2))
      clear hg
      by_cases p1 : 1 ≤ b
      · have p2 : 400 < b := by omega
        clear hbb
        go_enter Try.func47, Try.ntmps47
        go_wp2_with fail
        refine (graphOk_impl n a m cap xs _ (h.below hb0 (Nat.le_refl _))).mono ?_
        rintro e w1 ⟨rfl, hb1⟩
        rw [HG.out]
        go_wp2
        go_ret
        rw [HR.out]
        have BB1 := hb0.trans (hb1.mono (by simp))
        exact ⟨none, 0, 0, rfl, (OwnI.nil _ _ _ _), BB1⟩
      · clear hbb
        go_enter Try.func47, Try.ntmps47
        go_wp2_with fail
        refine (graphOk_impl n a m cap xs _ (h.below hb0 (Nat.le_refl _))).mono ?_
        rintro e w1 ⟨rfl, hb1⟩
        rw [HG.out]
        go_wp2
        go_ret
        rw [HR.out]
        have BB1 := hb0.trans (hb1.mono (by simp))
        exact ⟨none, 0, 0, rfl, (OwnI.nil _ _ _ _), BB1⟩
theorem cut_impl_u (y : GraphR) (D : Int × List EdgeR) (hD : datGraph y = D) (b : Int) (w : World) (g : goodGraph w y) (g1 : In64 b) :
    Calls Try.prog 47 #[.agg #[.int .i64 y.n, .slice y.edgesA y.edgesN y.edgesC], .int .i64 b] w fun e w' => RetL .i64 3 (cutG D.1 D.2 b) w e w' := by
  subst hD
  exact cut_impl _ _ _ _ _ _ _ g.2.1 g1
set_option maxRecDepth 100000 in
set_option maxHeartbeats 1600000 in
theorem cut_spec (n : Int) (a : Option Addr) (m cap : Nat) (xs : List EdgeR) (b : Int) (w : World) (h : Rd encEdge 3 w a m cap xs) (g1 : In64 b) :
    Calls Try.prog 46 #[.agg #[.int .i64 n, .slice a m cap], .int .i64 b] w fun e w' => RetL .i64 3 (cutG n xs b) w e w' := by
  have hL := Lib.hid h.len
  have hm := h.max
  have hle := h.le
  unfold maxLen at hm
  unfold In64 at g1
  have hb0 := (Below.refl w.heap.size w).alloc (Nat.le_refl _) (.cells #[.int .i64 n, .slice a m cap] 36)
  cases hg : graphB n xs with
  | false =>
    have HG := Lib.hid hg
    have HR := Lib.hid (cutG_no (n := n) (xs := xs) (b := b) (by rw [hg]; simp))
    clear hg
    go_enter Try.func46, Try.ntmps46
    go_wp2_with fail
    refine (graphOk_spec n a m cap xs _ (h.below hb0 (Nat.le_refl _))).mono ?_
    rintro e w1 ⟨rfl, hb1⟩
    rw [HG.out]
    go_wp2
    go_ret
    rw [HR.out]
    have BB1 := hb0.trans (hb1.mono (by simp))
    exact ⟨none, 0, 0, rfl, (OwnI.nil _ _ _ _), BB1⟩
  | true =>
    by_cases hbb : 1 ≤ b ∧ b ≤ 400
    · obtain ⟨p1, p2⟩ := hbb
      obtain ⟨q1, q2, q3, q4⟩ := graphB_yes hg
      obtain ⟨N, rfl⟩ := Int.eq_ofNat_of_zero_le q1
      have HR := Lib.hid (cutG_yes hg p1 p2)
      have HDG := Lib.hid (degG_yes (f := EdgeR.to) hg)
      have HG := Lib.hid hg
      rw [hL.out] at q3
      clear hg q4
      obtain ⟨i0, hi, hz0, hz1, hz2⟩ := info_parts infoIntS
      go_enter Try.func46, Try.ntmps46
      go_wp2_with fail
      refine (graphOk_spec _ a m cap xs _ (h.below hb0 (Nat.le_refl _))).mono ?_
      rintro e w1 ⟨rfl, hb1⟩
      rw [HG.out]
      obtain ⟨hc, hf⟩ := bcell hb1
      have c0 : w1.cell? ⟨w.heap.size, 0, none⟩ = some (.int .i64 N) := by rw [hc _ _ (by simp)]; simp [go_sem]
      have c1 : w1.cell? ⟨w.heap.size, 1, none⟩ = some (.slice a m cap) := by rw [hc _ _ (by simp)]; simp [go_sem]
      have BB1 := hb0.trans (hb1.mono (by simp))
      have sz1 : w.heap.size < w1.heap.size := by have := hb1.size; simp at this; omega
      clear hc hf hb1
      go_wp2_with fail
      have bb1 := (BB1.alloc BB1.size (.cells #[] 3))
      have c0' : (w1.alloc (.cells #[] 3)).cell? ⟨w.heap.size, 0, none⟩ = some (.int .i64 N) := by simp [go_sem, sz1, c0]
      have sz1' : w.heap.size < (w1.alloc (.cells #[] 3)).heap.size := by simp; omega
      refine (inDegs_spec N a m cap xs _ (h.below bb1 (Nat.le_refl _))).mono ?_
      rintro e w2 ⟨da, dn, dc, rfl, hD, hb2⟩
      rw [HDG.out] at hD
      have hbd0 := fun j => tally_bd N (degI EdgeR.to xs) j
      have hln : (degI EdgeR.to xs).length ≤ 400 := by simp [degI, hL.out]; omega
      have HBD := Lib.hid (fun j => (⟨(hbd0 j).1, by have := (hbd0 j).2; omega⟩ : 0 ≤ (tally N (degI EdgeR.to xs)).getD j 0 ∧ (tally N (degI EdgeR.to xs)).getD j 0 ≤ 400))
      have hDL := tally_len N (degI EdgeR.to xs)
      generalize tally N (degI EdgeR.to xs) = D at *
      clear hbd0 hln
      obtain rfl : dn = N := by rw [← hD.len, hDL]
      have HDL := Lib.hid hDL
      have d0 := cell_later hb2 c0'
      have BB2 := bb1.trans (hb2.mono bb1.size)
      have sz2 : w.heap.size < w2.heap.size := Nat.lt_of_lt_of_le sz1' hb2.size
      have hDr := hD.rd
      clear hD hDL
      have sz3 := hb2.size
      have hlit : OutRow w1.heap.size w2.heap.size 3 1 w2 (some ⟨w1.heap.size, 0, none⟩) 0 0 (([] : List Int).map (.int .i64)) := (OutRow.lit w1 3 1 w2.heap.size).below hb2
      clear c0 c1 c0' hb2
      go_wp2
      go_loopw [5, 6, 24] (fun t s i wr => ∃ (A : Option Addr) (r C k : Nat) (sm : Int) (ys : List Int), k ≤ dn ∧ i = .int .i64 k ∧ s = .int .i64 sm ∧ t = .slice A r C ∧ OutRow w1.heap.size w2.heap.size 3 1 wr A r C (ys.map (.int .i64)) ∧ ys.length = r ∧ r ≤ k ∧ 0 ≤ sm ∧ sm ≤ 400 * k ∧ (k = 0 → sm = 0) ∧ ys ++ stF b D k sm = cutL b D ∧ Below w2.heap.size w2 wr) (fun _ _ i _ => dn - (intOf i).toNat)
      case atStart => exact ⟨_, 0, 0, 0, 0, [], Nat.zero_le _, rfl, rfl, rfl, hlit, rfl, Nat.le_refl _, by omega, by omega, fun _ => rfl, by rw [stF_zero]; rfl, Below.refl _ _⟩
      case round =>
        obtain ⟨A, r, C, k, sm, ys, hk, rfl, rfl, rfl, ho, hyl, hr, s0, s1, hs0, he, hb⟩ := hrel
        have HE := Lib.hid he
        have HYL := Lib.hid hyl
        clear he hyl hlit
        have e0 := cell_later hb d0
        have szr := hb.size
        have sz12 : w1.heap.size ≤ w2.heap.size := by simp at sz3; omega
        by_cases hlt : k < dn
        · obtain ⟨gd, od, rfl, hgl, hcd⟩ := hDr.ints (by omega)
          have HCD : Hid (∀ j, j < dn → wr.cell? ⟨gd, od + j, none⟩ = some (.int .i64 (D[j]?.getD 0))) := Lib.hid (fun j hj => (hb.cell (p := ⟨gd, od + j, none⟩) hgl).trans (by simpa [List.getD] using hcd j hj))
          have HGD : Hid (∀ j, D[j]?.getD 0 = D.getD j 0) := Lib.hid (fun j => by simp [List.getD])
          have k0 := HCD.out k hlt
          rw [HGD.out k] at k0
          obtain ⟨v0, v1⟩ := HBD.out k
          have hki : (k : Int) < (dn : Int) := by omega
          have HS1 := Lib.hid (fun (h0 : k = 0) => (by subst h0; exact step_first (by rw [HDL.out]; exact hlt) HE.out : ys ++ stF b D 1 (0 + D.getD k 0) = cutL b D))
          have HS2 := Lib.hid (fun (h0 : 0 < k) hs => step_over (by rw [HDL.out]; exact hlt) h0 hs HE.out)
          have HS3 := Lib.hid (fun (h0 : 0 < k) hs => step_in (by rw [HDL.out]; exact hlt) h0 hs HE.out)
          clear hcd d0 HCD HGD
          generalize D.getD k 0 = d at *
          by_cases hk0 : k = 0
          · have hkz : (k : Int) ≤ 0 := by omega
            have H1 := Lib.hid (HS1.out hk0)
            have hsm := hs0 hk0
            subst hsm
            have HK := Lib.hid hk0
            clear HS1 HS2 HS3 hk0 hs0
            go_wp2
            go_roundw
            case rel => exact ⟨A, r, C, k + 1, 0 + d, ys, by omega, by go_num, by go_num, rfl, ho, HYL.out, by omega, by omega, by omega, fun hh => by omega, by have := H1.out; have hk := HK.out; subst hk; exact this, hb⟩
            case measure => simp [intOf]; omega
          · have hkz : (0 : Int) < (k : Int) := by omega
            have hkn : 0 < k := by omega
            by_cases hov : b < sm + d
            · have H2 := Lib.hid (HS2.out hkn hov)
              clear HS1 HS2 HS3 hk0 hs0
              go_wp2_with (at_builtin; refine app_out rfl _ _ 51 rfl w1.heap.size w2.heap.size 3 Try.underlying51 hi hz0 hz1 hz2 rfl (by decide) A r C (ys.map (.int .i64)) rfl (ho.alloc _) ⟨wr.heap.size, 0, none⟩ 1 1 [.int .i64 (k : Int)] rfl rfl (one_news _ _ _ _ rfl) (int_one _ _) (by decide) ?c4 ?c5 ?c6 ?c7 ?_)
              case c4 => unfold maxLen; omega
              case c5 => omega
              case c6 => exact sz12
              case c7 => first | omega | (simp; omega)
              intro A2 C2 w4 ho2 hb4
              have hb5 := (hb.alloc szr (.cells #[.int .i64 (k : Int)] 3)).trans hb4
              go_wp2
              go_roundw
              case rel => exact ⟨A2, r + 1, C2, k + 1, 0 + d, ys ++ [(k : Int)], by omega, by go_num, by go_num, rfl, by rw [List.map_append]; exact ho2, by rw [List.length_append, HYL.out]; rfl, by omega, by omega, by omega, fun hh => by omega, H2.out, hb5⟩
              case measure => simp [intOf]; omega
            · have hov' : sm + d ≤ b := by omega
              have H3 := Lib.hid (HS3.out hkn hov')
              clear HS1 HS2 HS3 hk0 hs0 hov
              go_wp2
              go_roundw
              case rel => exact ⟨A, r, C, k + 1, sm + d, ys, by omega, by go_num, by go_num, rfl, ho, HYL.out, by omega, by omega, by omega, fun hh => by omega, H3.out, hb⟩
              case measure => simp [intOf]; omega
        · obtain rfl : k = dn := by omega
          by_cases hk0 : k = 0
          · have hkz : (k : Int) ≤ 0 := by omega
            have HF : Hid (ys = cutL b D) := Lib.hid (end_zero (sm := sm) (by rw [HDL.out]; exact hk0) (by have := HE.out; rw [hk0] at this; exact this))
            clear hk0 hs0
            go_wp2
            go_ret
            rw [HR.out, ← HF.out]
            exact ⟨A, r, C, rfl, (OwnI.of ho.1 HYL.out (by omega)).lo_le BB1.size, BB2.trans (hb.mono BB2.size)⟩
          · have hkz : (0 : Int) < (k : Int) := by omega
            have HF := Lib.hid (end_pos (by rw [HDL.out]; omega) (by rw [HDL.out]; exact HE.out))
            clear hk0 hs0
            go_wp2_with (at_builtin; refine app_out rfl _ _ 51 rfl w1.heap.size w2.heap.size 3 Try.underlying51 hi hz0 hz1 hz2 rfl (by decide) A r C (ys.map (.int .i64)) rfl (ho.alloc _) ⟨wr.heap.size, 0, none⟩ 1 1 [.int .i64 (k : Int)] rfl rfl (one_news _ _ _ _ rfl) (int_one _ _) (by decide) ?d4 ?d5 ?d6 ?d7 ?_)
            case d4 => unfold maxLen; omega
            case d5 => omega
            case d6 => exact sz12
            case d7 => first | omega | (simp; omega)
            intro A2 C2 w4 ho2 hb4
            have hb5 := (hb.alloc szr (.cells #[.int .i64 (k : Int)] 3)).trans hb4
            go_wp2
            go_ret
            rw [HR.out, ← HF.out, HDL.out]
            exact ⟨A2, r + 1, C2, rfl, (OwnI.of (zs := ys ++ [(k : Int)]) (by rw [List.map_append]; exact ho2.1) (by rw [List.length_append, HYL.out]; rfl) (by omega)).lo_le BB1.size, BB2.trans (hb5.mono BB2.size)⟩
    · have HG := Lib.hid hg
      have HR := Lib.hid (cutG_no (n := n) (xs := xs) (b := b) (fun hh => hbb hh.2))
      clear hg
      by_cases p1 : 1 ≤ b
      · have p2 : 400 < b := by omega
        clear hbb
        go_enter Try.func46, Try.ntmps46
        go_wp2_with fail
        refine (graphOk_spec n a m cap xs _ (h.below hb0 (Nat.le_refl _))).mono ?_
        rintro e w1 ⟨rfl, hb1⟩
        rw [HG.out]
        go_wp2
        go_ret
        rw [HR.out]
        have BB1 := hb0.trans (hb1.mono (by simp))
        exact ⟨none, 0, 0, rfl, (OwnI.nil _ _ _ _), BB1⟩
      · clear hbb
        go_enter Try.func46, Try.ntmps46
        go_wp2_with fail
        refine (graphOk_spec n a m cap xs _ (h.below hb0 (Nat.le_refl _))).mono ?_
        rintro e w1 ⟨rfl, hb1⟩
        rw [HG.out]
        go_wp2
        go_ret
        rw [HR.out]
        have BB1 := hb0.trans (hb1.mono (by simp))
        exact ⟨none, 0, 0, rfl, (OwnI.nil _ _ _ _), BB1⟩
theorem cut_spec_u (y : GraphR) (D : Int × List EdgeR) (hD : datGraph y = D) (b : Int) (w : World) (g : goodGraph w y) (g1 : In64 b) :
    Calls Try.prog 46 #[.agg #[.int .i64 y.n, .slice y.edgesA y.edgesN y.edgesC], .int .i64 b] w fun e w' => RetL .i64 3 (cutG D.1 D.2 b) w e w' := by
  subst hD
  exact cut_spec _ _ _ _ _ _ _ g.2.1 g1
end Go.Proofs.Ytifaekkbdmcehaa

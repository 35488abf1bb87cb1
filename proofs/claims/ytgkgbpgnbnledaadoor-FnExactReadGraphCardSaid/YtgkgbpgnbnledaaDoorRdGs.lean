/- ReadGraph of the reference. -/
import Derived.Test.YtgkgbpgnbnledaaDoorRdG
import Derived.Test.YtgkgbpgnbnledaaDoorOutR
import Derived.Deep.RegionLaw
namespace Go.Proofs.YtgkgbpgnbnledaaDoor
open Go.RowKit
theorem specReadL_head {l : List UInt8} (h : ¬ 20000 < l.length) {p : List UInt8} {t : List (List UInt8)} (hl : linesL l = p :: t) : readGraphL l = match numsL p with
    | [n] => if 150 < n then ((0, []), 2) else specRest n t []
    | _ => ((0, []), 1) := by
  rw [← specReadL_eq]
  unfold specReadL
  rw [if_neg h, hl]
  rfl
theorem specReadL_one {l : List UInt8} (h : ¬ 20000 < l.length) {p : List UInt8} {t : List (List UInt8)} (hl : linesL l = p :: t) (h1 : (numsL p).length ≠ 1) : readGraphL l = ((0, []), 1) := by
  rw [specReadL_head h hl]
  split
  · rename_i n e
    rw [e] at h1
    exact absurd rfl h1
  · rfl
theorem specReadL_n {l : List UInt8} (h : ¬ 20000 < l.length) {p : List UInt8} {t : List (List UInt8)} (hl : linesL l = p :: t) {n : Int} (h1 : numsL p = [n]) : readGraphL l = if 150 < n then ((0, []), 2) else specRest n t [] := by
  rw [specReadL_head h hl, h1]
theorem specRest_no {n : Int} {p : List UInt8} {t : List (List UInt8)} {acc : List EdgeD} (h : (numsL p).length ≠ 3) : specRest n (p :: t) acc = ((0, []), 1) := by
  rw [specRest]
  split
  · rename_i a b c e
    rw [e] at h
    exact absurd rfl h
  · rfl
theorem specRest_yes {n : Int} {p : List UInt8} {t : List (List UInt8)} {acc : List EdgeD} {a b c : Int} (h : numsL p = [a, b, c]) : specRest n (p :: t) acc = if n ≤ a ∨ n ≤ b ∨ 1000 < c then ((0, []), 1) else if acc.length = 400 then ((0, []), 2) else specRest n t (acc ++ [(a, b, c)]) := by
  rw [specRest, h]
theorem three_ints {L : List Int} (h : L.length = 3) : ∃ a b c, L = [a, b, c] := by
  match L, h with
  | [a, b, c], _ => exact ⟨a, b, c, rfl⟩
/-- The state of the loop. -/
structure RdS2 (l : List UInt8) (R : Nat) (w3 wr : World) (k : Nat) (nn : Int) (A : Option Addr) (m C : Nat) (es : List EdgeD) (G : Nat) : Prop where
  res : GBox wr R 0 none 0 0
  g : GBox wr G nn A m C
  row : OutRow (G + 1) w3.heap.size 50 3 wr A m C ((es.map eR).flatMap encEdge)
  len : es.length = m
  le : m ≤ 400
  rel : readGraphL l = specRest nn ((linesL l).drop (k + 1)) es
  win : Win G (G + 1) w3 wr
set_option maxRecDepth 100000 in
set_option maxHeartbeats 12800000 in
theorem readGraph_spec (s : ByteArray) (hs : s.size ≤ 1048576) (w : World) :
    Calls Tryd.prog 24 #[.string s] w fun e w' => RetG s.data.toList w e w' := by
  obtain ⟨i0, hi, hz0, hz1, hz2⟩ := info_parts infoEdge
  have hba := (Below.refl w.heap.size w).alloc (Nat.le_refl _) (.cells #[.int .i64 0, .slice none 0 0] 36)
  have hsz := size_dataB s
  have hG0 := GBox.new w 36 0 none 0 0
  by_cases hlong : 20000 < s.size
  · have HR := Lib.hid (readGraphL_long (l := s.data.toList) (by rw [hsz]; exact hlong))
    have hli : (20000 : Int) < (s.size : Int) := by omega
    obtain ⟨x0, x1, y0, y1⟩ := hG0
    go_enter Tryd.func24, Tryd.ntmps24
    go_wp2
    refine bodyPost_ret (v := .tuple #[.agg #[.int .i64 0, .slice none 0 0], .int .i64 2]) (by simp [results, Tryd.results24, go_sem]) rfl ?_
    exact ⟨⟨0, none, 0, 0, []⟩, by rw [HR.out], by rw [rgD_no HR.out]; rfl, own_nil _ _ _ (Nat.le_refl _) _, Nat.zero_le _, hba⟩
  · have hli : ¬ (20000 : Int) < (s.size : Int) := by omega
    have hmem : ∀ p ∈ linesL s.data.toList, p.length ≤ s.size := fun p hp => by
      rw [← hsz]
      refine cutAt_mem_len 10 s.data.toList p ?_
      obtain ⟨hne, e⟩ := linesL_of (s := s.data.toList) rfl
      rw [e] at hp
      split at hp
      · exact List.mem_of_mem_take hp
      · exact hp
    have cl := fun w => lines_spec s hs w
    go_enter Tryd.func24, Tryd.ntmps24
    go_wp2_with fail
    refine (cl _).mono ?_
    rintro e w1 ⟨a1, n1, k1, rfl, hr1, hg1, hb1⟩
    have B1 := hba.trans (hb1.mono (by simp))
    have hGR := hG0.below hb1
    have hN : (linesL s.data.toList).length = n1 := by have := hr1.len; rwa [List.length_map] at this
    have hle1 := hr1.le
    have hmx1 := hr1.max
    unfold maxLen at hmx1
    by_cases hn0 : n1 = 0
    · have HR := Lib.hid (readGraphL_none (l := s.data.toList) (by rw [hsz]; exact hlong) (List.eq_nil_of_length_eq_zero (by omega)))
      have hni : ((n1 : Int) == 0) = true := by simp; omega
      obtain ⟨x0, x1, y0, y1⟩ := hGR
      clear cl hG0
      go_wp2
      refine bodyPost_ret (v := .tuple #[.agg #[.int .i64 0, .slice none 0 0], .int .i64 1]) (by simp [results, Tryd.results24, go_sem, x0, x1]) rfl ?_
      exact ⟨⟨0, none, 0, 0, []⟩, by rw [HR.out], by rw [rgD_no HR.out]; rfl, own_nil _ _ _ (Nat.le_refl _) _, Nat.zero_le _, (B1.setCell (p := ⟨w.heap.size, 0, none⟩) (Nat.le_refl _) _).setCell (p := ⟨w.heap.size, 1, none⟩) (Nat.le_refl _) _⟩
    · have hni : ((n1 : Int) == 0) = false := by simp; omega
      have hz : ∀ p ∈ linesL s.data.toList, (mkB p).size ≤ 1048576 := fun p hp => by rw [mkB_size]; exact Nat.le_trans (hmem p hp) hs
      have HLg : Hid (¬ 20000 < s.data.toList.length) := Lib.hid (by rw [hsz]; exact hlong)
      obtain ⟨b1, off1, hab, hbl1, hc1⟩ := hr1.strs (by omega)
      subst hab
      have hk0 : 0 < (linesL s.data.toList).length := by omega
      have HD0 : Hid (linesL s.data.toList = (linesL s.data.toList)[0] :: (linesL s.data.toList).drop 1) := Lib.hid (by have := List.drop_eq_getElem_cons hk0; rwa [List.drop_zero] at this)
      have hcell0 : w1.cell? ⟨b1, off1, none⟩ = some (.string (mkB (linesL s.data.toList)[0])) := by
        have := hc1 0 (by omega)
        rw [atS_eq _ _ (by rw [List.length_map]; exact hk0), List.getElem_map] at this
        exact this
      have q := nums_spec (mkB (linesL s.data.toList)[0]) (hz _ (List.getElem_mem hk0))
      simp only [mkB_data] at q
      have H1 := Lib.hid (specReadL_one HLg.out HD0.out)
      have HNn := Lib.hid (fun n h1 => specReadL_n HLg.out HD0.out (n := n) h1)
      have hi0 : (0 : Int) < (n1 : Int) := by omega
      generalize numsL (linesL s.data.toList)[0] = hd at *
      clear cl hG0
      go_wp2_with fail
      refine (q _).mono ?_
      rintro e w2 ⟨ha, hn, hc, rfl, hrh, hb2⟩
      have B2 := B1.trans (hb2.mono B1.size)
      have hGR2 := hGR.below hb2
      have hhl := hrh.len
      by_cases h1 : hn = 1
      · subst h1
        obtain ⟨v, rfl⟩ : ∃ v, hd = [v] := by
          match hd, hhl with
          | [v], _ => exact ⟨v, rfl⟩
        obtain ⟨hb, ho, hha, hhb, hhc⟩ := hrh.ints (by omega)
        subst hha
        have hv0 : w2.cell? ⟨hb, ho, none⟩ = some (.int .i64 v) := hhc 0 (by omega)
        have hcap := hrh.le
        by_cases hv : 150 < v
        · have HR : Hid (readGraphL s.data.toList = ((0, []), 2)) := Lib.hid (by rw [HNn.out v rfl, if_pos hv])
          obtain ⟨x0, x1, y0, y1⟩ := hGR2
          go_wp2
          refine bodyPost_ret (v := .tuple #[.agg #[.int .i64 0, .slice none 0 0], .int .i64 2]) (by simp [results, Tryd.results24, go_sem, x0, x1]) rfl ?_
          exact ⟨⟨0, none, 0, 0, []⟩, by rw [HR.out], by rw [rgD_no HR.out]; rfl, own_nil _ _ _ (Nat.le_refl _) _, Nat.zero_le _, (B2.setCell (p := ⟨w.heap.size, 0, none⟩) (Nat.le_refl _) _).setCell (p := ⟨w.heap.size, 1, none⟩) (Nat.le_refl _) _⟩
        · have HRR : Hid (readGraphL s.data.toList = specRest v ((linesL s.data.toList).drop 1) []) := Lib.hid (by rw [HNn.out v rfl, if_neg hv])
          have hal := (Below.refl w2.heap.size w2).alloc (Nat.le_refl _) (.cells #[.int .i64 v, .slice none 0 0] 36)
          have hRw := hGR2.below hal
          have hGw := GBox.new w2 36 v none 0 0
          have B3 := B2.trans (hal.mono B2.size)
          have hGs : w1.heap.size ≤ w2.heap.size := hb2.size
          have hGs0 : w.heap.size < w1.heap.size := hGR.lt
          have H0 : Hid (RdS2 s.data.toList w.heap.size (w2.alloc (.cells #[.int .i64 v, .slice none 0 0] 36)) (w2.alloc (.cells #[.int .i64 v, .slice none 0 0] 36)) 0 v none 0 0 [] w2.heap.size) := Lib.hid ⟨hRw, hGw, OutRow.nil _ _ _ _ _, rfl, Nat.zero_le _, HRR.out, Win.refl _ _ _⟩
          have hr3 := (hr1.below hb2 (Nat.le_refl _)).below hal (Nat.le_refl _)
          have hww : wrap64 ((n1 : Int) - 1) = ((n1 - 1 : Nat) : Int) := by rw [IntWalk.wrap64_in _ ⟨by omega, by omega⟩]; omega
          have hsz3 : (w2.alloc (.cells #[.int .i64 v, .slice none 0 0] 36)).heap.size = w2.heap.size + 1 := World.size_alloc ..
          by_cases hn2 : n1 = 1
          · have HR : Hid (readGraphL s.data.toList = ((v, []), 0)) := Lib.hid (by rw [HRR.out, List.drop_of_length_le (by omega)]; rfl)
            subst hn2
            obtain ⟨x0, x1, y0, y1⟩ := hRw
            obtain ⟨g0, g1, e0, e1⟩ := hGw
            go_wp2
            all_goals
              generalize w2.alloc (.cells #[.int .i64 v, .slice none 0 0] 36) = w3 at *
              refine wp_loop_rounds 1 ?_
              rw [rounds_succ]
              go_wp2
              refine bodyPost_ret (v := .tuple #[.agg #[.int .i64 v, .slice none 0 0], .int .i64 0]) (by simp [results, Tryd.results24, go_sem, x0, x1]) rfl ?_
              exact ⟨⟨v, none, 0, 0, []⟩, by rw [HR.out], by unfold rgD; rw [HR.out]; rfl, own_nil _ _ _ (Nat.le_refl _) _, Nat.zero_le _, (B3.setCell (p := ⟨w.heap.size, 0, none⟩) (Nat.le_refl _) _).setCell (p := ⟨w.heap.size, 1, none⟩) (Nat.le_refl _) _⟩
          · have hkk : ¬ k1 = 1 := by omega
            have hkk2 : ¬ k1 - 1 = 0 := by omega
            have hBz : Below w.heap.size w (w2.alloc (.cells #[.int .i64 v, .slice none 0 0] 36)) := B3
            go_wp2
            generalize w2.alloc (.cells #[.int .i64 v, .slice none 0 0] 36) = w3 at *
            clear hc1 hcell0 q hrh hhl hhc hv0 hcap hGR hGR2 hRw hGw hal HNn H1 HRR hi0 HD0
            go_loopw [40] (fun i wr => ∃ (k : Nat) (A : Option Addr) (m C : Nat) (es : List EdgeD), k ≤ n1 - 1 ∧ i = .int .i64 k ∧ Hid (RdS2 s.data.toList w.heap.size w3 wr k v A m C es w2.heap.size)) (fun i _ => n1 - 1 - (intOf i).toNat)
            case atStart => exact ⟨0, none, 0, 0, [], Nat.zero_le _, rfl, H0⟩
            case round =>
              obtain ⟨k, A, m, C, es, hk, rfl, HI⟩ := hrel
              clear H0
              have BW : Below w.heap.size w wr := B3.trans (HI.out.win.below (by omega) B3.size)
              have hsr := HI.out.win.size
              by_cases hlt : k < n1 - 1
              · obtain ⟨b', off', hab', hbl', hc3⟩ := hr3.strs (by omega)
                cases hab'
                have hkx : k + 1 < (linesL s.data.toList).length := by omega
                have hcell : wr.cell? ⟨b1, off1 + 1 + k, none⟩ = some (.string (mkB (linesL s.data.toList)[k + 1])) := by
                  have := hc3 (k + 1) (by omega)
                  rw [atS_eq _ _ (by rw [List.length_map]; exact hkx), List.getElem_map, show off1 + (k + 1) = off1 + 1 + k by omega] at this
                  exact cell_win HI.out.win this (Or.inl (by omega))
                have hi1 : (k : Int) < ((n1 - 1 : Nat) : Int) := by omega
                have hi2 : (k : Int) < (n1 : Int) - 1 := by omega
                have hpz := hz _ (List.getElem_mem hkx)
                have HD : Hid ((linesL s.data.toList).drop (k + 1) = (linesL s.data.toList)[k + 1] :: (linesL s.data.toList).drop (k + 1 + 1)) := Lib.hid (List.drop_eq_getElem_cons hkx)
                have HH : Hid (readGraphL s.data.toList = specRest v ((linesL s.data.toList)[k + 1] :: (linesL s.data.toList).drop (k + 1 + 1)) es) := Lib.hid (by rw [HI.out.rel, HD.out])
                have q := fun w => nums_spec (mkB (linesL s.data.toList)[k + 1]) hpz w
                simp only [mkB_data] at q
                clear hc3 hpz HD
                generalize (linesL s.data.toList)[k + 1] = p at *
                have HNO := Lib.hid (fun (h : (numsL p).length ≠ 3) => HH.out.trans (specRest_no h))
                have HYE := Lib.hid (fun x y z (h : numsL p = [x, y, z]) => HH.out.trans (specRest_yes h))
                generalize mkB p = S at *
                generalize numsL p = ns at *
                have hlen := HI.out.len
                have hm4 := HI.out.le
                go_wp2_with fail
                refine (q _).mono ?_
                rintro e w5 ⟨va, vn, vc, rfl, hrv, hb5⟩
                have BW5 := BW.trans (hb5.mono BW.size)
                have hR5 := HI.out.res.below hb5
                have hG5 := HI.out.g.below hb5
                have hO5 := HI.out.row.below hb5
                have hW5 := HI.out.win.trans (Win.of_below hb5)
                have hnl := hrv.len
                by_cases h3 : vn = 3
                · subst h3
                  obtain ⟨x, y, z, rfl⟩ := three_ints hnl
                  obtain ⟨vb, vo, hva, hvb, hvc⟩ := hrv.ints (by omega)
                  subst hva
                  have hcap := hrv.le
                  have z0 : w5.cell? ⟨vb, vo, none⟩ = some (.int .i64 x) := hvc 0 (by omega)
                  have z1 : w5.cell? ⟨vb, vo + 1, none⟩ = some (.int .i64 y) := hvc 1 (by omega)
                  have z2 : w5.cell? ⟨vb, vo + 2, none⟩ = some (.int .i64 z) := hvc 2 (by omega)
                  have HYX := Lib.hid (HYE.out x y z rfl)
                  have HG5 := Lib.hid hG5
                  have HR5 := Lib.hid hR5
                  obtain ⟨x0, x1, y0, y1⟩ := hR5
                  obtain ⟨g0, g1, e0, e1⟩ := hG5
                  clear hvc hrv hnl q HNO HYE
                  have hbN : ∀ q, Below w5.heap.size w5 (w5.drewN q) := fun q => below_drewN (Below.refl _ _) q
                  by_cases c1 : v ≤ x
                  · have HR : Hid (readGraphL s.data.toList = ((0, []), 1)) := Lib.hid (by rw [HYX.out, if_pos (Or.inl c1)])
                    go_wp2_with fail
                    go_quiet (fail)
                    go_wp2
                    refine bodyPost_ret (v := .tuple #[.agg #[.int .i64 0, .slice none 0 0], .int .i64 1]) (by simp [results, Tryd.results24, go_sem, x0, x1]) rfl ?_
                    exact ⟨⟨0, none, 0, 0, []⟩, by rw [HR.out], by rw [rgD_no HR.out]; rfl, own_nil _ _ _ (Nat.le_refl _) _, Nat.zero_le _, ((below_drewN BW5 _).setCell (p := ⟨w.heap.size, 0, none⟩) (Nat.le_refl _) _).setCell (p := ⟨w.heap.size, 1, none⟩) (Nat.le_refl _) _⟩
                  · by_cases c2 : v ≤ y
                    · have HR : Hid (readGraphL s.data.toList = ((0, []), 1)) := Lib.hid (by rw [HYX.out, if_pos (Or.inr (Or.inl c2))])
                      go_wp2_with fail
                      go_quiet (fail)
                      go_wp2
                      refine bodyPost_ret (v := .tuple #[.agg #[.int .i64 0, .slice none 0 0], .int .i64 1]) (by simp [results, Tryd.results24, go_sem, x0, x1]) rfl ?_
                      exact ⟨⟨0, none, 0, 0, []⟩, by rw [HR.out], by rw [rgD_no HR.out]; rfl, own_nil _ _ _ (Nat.le_refl _) _, Nat.zero_le _, ((below_drewN BW5 _).setCell (p := ⟨w.heap.size, 0, none⟩) (Nat.le_refl _) _).setCell (p := ⟨w.heap.size, 1, none⟩) (Nat.le_refl _) _⟩
                    · by_cases c3 : 1000 < z
                      · have HR : Hid (readGraphL s.data.toList = ((0, []), 1)) := Lib.hid (by rw [HYX.out, if_pos (Or.inr (Or.inr c3))])
                        go_wp2_with fail
                        go_quiet (fail)
                        go_wp2
                        refine bodyPost_ret (v := .tuple #[.agg #[.int .i64 0, .slice none 0 0], .int .i64 1]) (by simp [results, Tryd.results24, go_sem, x0, x1]) rfl ?_
                        exact ⟨⟨0, none, 0, 0, []⟩, by rw [HR.out], by rw [rgD_no HR.out]; rfl, own_nil _ _ _ (Nat.le_refl _) _, Nat.zero_le _, ((below_drewN BW5 _).setCell (p := ⟨w.heap.size, 0, none⟩) (Nat.le_refl _) _).setCell (p := ⟨w.heap.size, 1, none⟩) (Nat.le_refl _) _⟩
                      · have HR0 := Lib.hid (HYX.out.trans (if_neg (by omega)))
                        go_wp2_with fail
                        go_quiet (fail)
                        generalize hw6 : w5.drewN _ = w6
                        have hb6 : Below w5.heap.size w5 w6 := by rw [← hw6]; exact hbN _
                        have BW6 := BW5.trans (hb6.mono BW5.size)
                        have hR6 := HR5.out.below hb6
                        have hG6 := HG5.out.below hb6
                        have hO6 := hO5.below hb6
                        have hW6 := hW5.trans (Win.of_below hb6)
                        replace z0 := cell_later hb6 z0
                        replace z1 := cell_later hb6 z1
                        replace z2 := cell_later hb6 z2
                        clear x0 x1 y0 y1 g0 g1 e0 e1 hbN hw6 HR5 HG5 hO5 hW5 hb5 BW5
                        have HG6 := Lib.hid hG6
                        have HR6 := Lib.hid hR6
                        obtain ⟨x0, x1, y0, y1⟩ := hR6
                        obtain ⟨g0, g1, e0, e1⟩ := hG6
                        by_cases h4 : m = 400
                        · have HR : Hid (readGraphL s.data.toList = ((0, []), 2)) := Lib.hid (by rw [HR0.out, if_pos (by rw [hlen]; exact h4)])
                          subst h4
                          go_wp2
                          refine bodyPost_ret (v := .tuple #[.agg #[.int .i64 0, .slice none 0 0], .int .i64 2]) (by simp [results, Tryd.results24, go_sem, x0, x1]) rfl ?_
                          exact ⟨⟨0, none, 0, 0, []⟩, by rw [HR.out], by rw [rgD_no HR.out]; rfl, own_nil _ _ _ (Nat.le_refl _) _, Nat.zero_le _, (BW6.setCell (p := ⟨w.heap.size, 0, none⟩) (Nat.le_refl _) _).setCell (p := ⟨w.heap.size, 1, none⟩) (Nat.le_refl _) _⟩
                        · have HR : Hid (readGraphL s.data.toList = specRest v ((linesL s.data.toList).drop (k + 1 + 1)) (es ++ [(x, y, z)])) := Lib.hid (by rw [HR0.out, if_neg (by rw [hlen]; exact h4)])
                          have h4i : ((m : Int) == 400) = false := by simp; omega
                          have hs6 := hb6.size
                          have hsW := hW6.size
                          have hw1' : w.heap.size < w2.heap.size := by omega
                          have hal6 := (Below.refl w6.heap.size w6).alloc (Nat.le_refl _) (.cells #[.int .i64 x, .int .i64 y, .int .i64 z] 50)
                          have hnews : ∀ (j : Nat) (u : Value), [Value.int .i64 x, .int .i64 y, .int .i64 z][j]? = some u → (w6.alloc (.cells #[.int .i64 x, .int .i64 y, .int .i64 z] 50)).cell? ((⟨w6.heap.size, 0, none⟩ : Addr).add j) = some u := World.news_of_block (heap_alloc_new w6 (.cells #[.int .i64 x, .int .i64 y, .int .i64 z] 50))
                          have hne1 := World.new_ne w6 ⟨w2.heap.size, 1, none⟩ g1
                          have g1b := cell_later hal6 g1
                          clear x0 x1 y0 y1 e0
                          go_wp2_with fail
                          go_region_law ((refine step_app_out (by rfl) _ _ _ (by rfl) (w2.heap.size + 1) w3.heap.size 50 Tryd.underlying34 hi hz0 hz1 hz2 rfl (by decide) A m C ((es.map eR).flatMap encEdge) (by rfl) ((hO6.alloc _).below ((Below.refl _ _).drew)) ⟨w6.heap.size, 0, none⟩ 1 1 [.int .i64 x, .int .i64 y, .int .i64 z] (by rfl) (by rfl) hnews (by intro u hu; simp at hu; rcases hu with rfl | rfl | rfl <;> rfl) (by decide) (by unfold maxLen; omega) (by omega) (by omega) (by simp; omega) ?_; intro A2 C2 w9 ho9 hb9; have hG9 := (HG6.out.below (hal6.drew)).keep (hb9.block _ (by omega)); obtain ⟨q0, q1, q2, q3⟩ := hG9))
                          all_goals
                            have hR9 := (HR6.out.below (hal6.drew)).keep (hb9.block _ (by omega))
                            have hG9 := (HG6.out.below (hal6.drew)).keep (hb9.block _ (by omega))
                            have hW9 := (hW6.trans (Win.of_below (hal6.drew))).then_below hb9
                            have HW : Win w2.heap.size (w2.heap.size + 1) w9 (w9.setCell ⟨w2.heap.size, 1, none⟩ (.slice A2 (m + 1) C2)) := Win.set _ _ _ _ (Nat.le_refl _) (Nat.lt_succ_self _)
                            have HN : Hid (RdS2 s.data.toList w.heap.size w3 (w9.setCell ⟨w2.heap.size, 1, none⟩ (.slice A2 (m + 1) C2)) (k + 1) v A2 (m + 1) C2 (es ++ [(x, y, z)]) w2.heap.size) := Lib.hid ⟨hR9.win HW (Or.inl hw1'), hG9.setE _ _ _, OutRow.win (by rw [List.map_append, List.flatMap_append]; exact ho9) HW (Nat.le_refl _) (by omega), by rw [List.length_append, hlen]; rfl, by omega, HR.out, hW9.trans HW⟩
                            clear hR9 hG9 hW9 HW ho9 hb9 q0 q1 q2 q3 hO6 hal6 hnews hne1 g1b z0 z1 z2 g0 g1 e1 HG6 HR6 hb6 hW6
                            go_wp2
                            go_roundw
                            case rel => exact ⟨k + 1, A2, m + 1, C2, es ++ [(x, y, z)], by omega, by go_num, HN⟩
                            case measure => simp [intOf]; omega
                · have HR := Lib.hid (HNO.out (by omega))
                  have h3i : ((vn : Int) != 3) = true := by simp; omega
                  obtain ⟨x0, x1, y0, y1⟩ := hR5
                  go_wp2
                  refine bodyPost_ret (v := .tuple #[.agg #[.int .i64 0, .slice none 0 0], .int .i64 1]) (by simp [results, Tryd.results24, go_sem, x0, x1]) rfl ?_
                  exact ⟨⟨0, none, 0, 0, []⟩, by rw [HR.out], by rw [rgD_no HR.out]; rfl, own_nil _ _ _ (Nat.le_refl _) _, Nat.zero_le _, (BW5.setCell (p := ⟨w.heap.size, 0, none⟩) (Nat.le_refl _) _).setCell (p := ⟨w.heap.size, 1, none⟩) (Nat.le_refl _) _⟩
              · have hke : k = n1 - 1 := by omega
                have HR : Hid (readGraphL s.data.toList = ((v, es), 0)) := Lib.hid (by rw [HI.out.rel, List.drop_of_length_le (by omega)]; rfl)
                subst hke
                obtain ⟨x0, x1, y0, y1⟩ := HI.out.res
                obtain ⟨g0, g1, e0, e1⟩ := HI.out.g
                have hlt' : ¬ ((n1 - 1 : Nat) : Int) < ((n1 - 1 : Nat) : Int) := by omega
                have hlt2 : ¬ ((n1 - 1 : Nat) : Int) < (n1 : Int) - 1 := by omega
                have HW : Win w.heap.size (w.heap.size + 1) wr ((wr.setCell ⟨w.heap.size, 0, none⟩ (.int .i64 v)).setCell ⟨w.heap.size, 1, none⟩ (.slice A m C)) := (Win.set _ _ _ _ (Nat.le_refl _) (Nat.lt_succ_self _)).trans (Win.set _ _ _ _ (Nat.le_refl _) (Nat.lt_succ_self _))
                have HO := Lib.hid (HI.out.row.win HW (by omega) (by omega))
                have HBW := Lib.hid (BW.trans (HW.below (Nat.le_refl _) BW.size))
                have HLN := Lib.hid HI.out.len
                have hm4 := HI.out.le
                clear HW BW
                go_wp2
                refine bodyPost_ret (v := .tuple #[.agg #[.int .i64 v, .slice A m C], .int .i64 0]) (by simp [results, Tryd.results24, go_sem, x0, x1]) rfl ?_
                refine ⟨⟨v, A, m, C, es.map eR⟩, by rw [HR.out], by unfold rgD datGraph; rw [HR.out], ⟨?_, Nat.le_refl _⟩, ?_, HBW.out⟩
                · exact (OwnS.of HO.out.1 (by rw [List.length_map]; exact HLN.out) (by show m ≤ _; omega)).lo_le (by omega)
                · show m ≤ 1048576
                  omega
      · have HR : Hid (readGraphL s.data.toList = ((0, []), 1)) := Lib.hid (H1.out (by omega))
        have h1i : ((hn : Int) != 1) = true := by simp; omega
        obtain ⟨x0, x1, y0, y1⟩ := hGR2
        go_wp2
        refine bodyPost_ret (v := .tuple #[.agg #[.int .i64 0, .slice none 0 0], .int .i64 1]) (by simp [results, Tryd.results24, go_sem, x0, x1]) rfl ?_
        exact ⟨⟨0, none, 0, 0, []⟩, by rw [HR.out], by rw [rgD_no HR.out]; rfl, own_nil _ _ _ (Nat.le_refl _) _, Nat.zero_le _, (B2.setCell (p := ⟨w.heap.size, 0, none⟩) (Nat.le_refl _) _).setCell (p := ⟨w.heap.size, 1, none⟩) (Nat.le_refl _) _⟩
end Go.Proofs.YtgkgbpgnbnledaaDoor

/- ReadGraph of the program. -/
import Derived.Test.YtgkgbpgnbnledaaDoorRdE
import Derived.Test.YtgkgbpgnbnledaaDoorGraphU
namespace Go.Proofs.YtgkgbpgnbnledaaDoor
open Go.RowKit
def eR (e : EdgeD) : EdgeR := ⟨e.1, e.2.1, e.2.2⟩
/-- What ReadGraph reads. -/
def rgD (l : List UInt8) : Int × List EdgeR := ((readGraphL l).1.1, (readGraphL l).1.2.map eR)
/-- A call that returns a graph of its own and a code. -/
def RetG (l : List UInt8) (w : World) (e : Ending) (w' : World) : Prop := ∃ y : GraphR, e = .returned (.tuple #[.agg #[.int .i64 y.n, .slice y.edgesA y.edgesN y.edgesC], .int .i64 (readGraphL l).2]) ∧ datGraph y = rgD l ∧ OwnGraph w.heap.size w'.heap.size w' y ∧ bulkGraph y ≤ 1048576 ∧ Below w.heap.size w w'
theorem rgD_no {l : List UInt8} {c : Int} (h : readGraphL l = ((0, []), c)) : rgD l = (0, []) := by unfold rgD; rw [h]; rfl
theorem own_nil (lo hi : Nat) (w : World) (h : hi ≤ w.heap.size) (n : Int) : OwnGraph lo hi w ⟨n, none, 0, 0, []⟩ :=
  ⟨⟨rfl, World.ownsRow_nil _ _ _ _, (fun g hg => by cases hg), h, Nat.zero_le _⟩, h⟩
/-- A graph in a block of the call's own. -/
structure GBox (w : World) (G : Nat) (n : Int) (A : Option Addr) (m C : Nat) : Prop where
  c0 : w.cell? ⟨G, 0, none⟩ = some (.int .i64 n)
  c1 : w.cell? ⟨G, 1, none⟩ = some (.slice A m C)
  f0 : w.frozen? ⟨G, 0, none⟩ = false
  f1 : w.frozen? ⟨G, 1, none⟩ = false
theorem GBox.lt {w : World} {G : Nat} {n : Int} {A : Option Addr} {m C : Nat} (h : GBox w G n A m C) : G < w.heap.size := World.block_lt_of_cell? _ _ h.c0
theorem GBox.keep {w w' : World} {G : Nat} {n : Int} {A : Option Addr} {m C : Nat} (h : GBox w G n A m C) (hb : w'.heap[G]? = w.heap[G]?) : GBox w' G n A m C := by
  have c : ∀ o, w'.cell? ⟨G, o, none⟩ = w.cell? ⟨G, o, none⟩ := fun o => World.cell?_of_block (w := w) (a := ⟨G, o, none⟩) hb
  have f : ∀ o, w'.frozen? ⟨G, o, none⟩ = w.frozen? ⟨G, o, none⟩ := fun o => by unfold World.frozen?; rw [hb]
  exact ⟨(c 0).trans h.c0, (c 1).trans h.c1, (f 0).trans h.f0, (f 1).trans h.f1⟩
theorem GBox.below {w w' : World} {G : Nat} {n : Int} {A : Option Addr} {m C : Nat} (h : GBox w G n A m C) (hb : Below w.heap.size w w') : GBox w' G n A m C := h.keep (hb.block G h.lt)
theorem GBox.win {w w' : World} {G lo hi : Nat} {n : Int} {A : Option Addr} {m C : Nat} (h : GBox w G n A m C) (hw : Win lo hi w w') (hd : G < lo ∨ hi ≤ G) : GBox w' G n A m C := h.keep (hw.block G h.lt hd)
theorem GBox.setN {w : World} {G : Nat} {n : Int} {A : Option Addr} {m C : Nat} (h : GBox w G n A m C) (v : Int) : GBox (w.setCell ⟨G, 0, none⟩ (.int .i64 v)) G v A m C :=
  ⟨World.cell?_setCell_same _ _ _ h.c0, by rw [World.cell?_setCell_other _ _ _ _ (by simp)]; exact h.c1, by rw [World.frozen?_setCell]; exact h.f0, by rw [World.frozen?_setCell]; exact h.f1⟩
theorem GBox.setE {w : World} {G : Nat} {n : Int} {A : Option Addr} {m C : Nat} (h : GBox w G n A m C) (A' : Option Addr) (m' C' : Nat) : GBox (w.setCell ⟨G, 1, none⟩ (.slice A' m' C')) G n A' m' C' :=
  ⟨by rw [World.cell?_setCell_other _ _ _ _ (by simp)]; exact h.c0, World.cell?_setCell_same _ _ _ h.c1, by rw [World.frozen?_setCell]; exact h.f0, by rw [World.frozen?_setCell]; exact h.f1⟩
theorem GBox.new (w : World) (t : TypeId) (n : Int) (A : Option Addr) (m C : Nat) : GBox (w.alloc (.cells #[.int .i64 n, .slice A m C] t)) w.heap.size n A m C := ⟨by simp [go_sem], by simp [go_sem], by simp [go_sem], by simp [go_sem]⟩
theorem OutRow.win {lo B : Nat} {e : TypeId} {sz : Nat} {w w' : World} {a : Option Addr} {n cap : Nat} {xs : List Value} (h : OutRow lo B e sz w a n cap xs) {x y : Nat} (hw : Win x y w w') (hd : y ≤ lo) (hB : lo ≤ B) : OutRow lo B e sz w' a n cap xs :=
  ⟨own_win h.1 hw (fun g hg => Or.inr (Nat.le_trans hd (World.ownsRow.lt h.1 g hg).1)), h.2.imp (fun k => own_win k hw (fun g hg => Or.inr (Nat.le_trans hd (Nat.le_trans hB (World.ownsRow.lt k g hg).1)))) id⟩
theorem readGraphL_long {l : List UInt8} (h : 20000 < l.length) : readGraphL l = ((0, []), 2) := by unfold readGraphL; rw [if_pos h]
theorem readGraphL_none {l : List UInt8} (h : ¬ 20000 < l.length) (hl : linesL l = []) : readGraphL l = ((0, []), 1) := by unfold readGraphL; rw [if_neg h, hl]
theorem readGraphL_head {l : List UInt8} (h : ¬ 20000 < l.length) {p : List UInt8} {t : List (List UInt8)} (hl : linesL l = p :: t) : readGraphL l = if (textNumL p).2 then (if 150 < (textNumL p).1 then ((0, []), 2) else readRest (textNumL p).1 t []) else ((0, []), 1) := by unfold readGraphL; rw [if_neg h, hl]
theorem readRest_cons (n : Int) (p : List UInt8) (t : List (List UInt8)) (acc : List EdgeD) : readRest n (p :: t) acc = if (readEdgeL p n).2 then (if 400 ≤ acc.length then ((0, []), 2) else readRest n t (acc ++ [(readEdgeL p n).1])) else ((0, []), 1) := by rw [readRest]
/-- The state of the loop. -/
structure RdSt (l : List UInt8) (w w1 : World) (wr : World) (k : Nat) (nn : Int) (A : Option Addr) (m C : Nat) (es : List EdgeD) : Prop where
  res : GBox wr w.heap.size 0 none 0 0
  g : GBox wr (w.heap.size + 1) nn A m C
  row : OutRow (w.heap.size + 2) w1.heap.size 50 3 wr A m C ((es.map eR).flatMap encEdge)
  len : es.length = m
  le : m ≤ 400
  rel : (k = 0 ∧ nn = 0 ∧ es = []) ∨ (0 < k ∧ readGraphL l = readRest nn ((linesL l).drop k) es)
  win : Win (w.heap.size + 1) (w.heap.size + 2) w1 wr
set_option maxRecDepth 100000 in
set_option maxHeartbeats 12800000 in
theorem readGraph_impl (s : ByteArray) (hs : s.size ≤ 1048576) (w : World) (hm : SomeInt 3 w) (hp : Pow Tryd.prog w) (he : Errs Tryd.prog w) :
    Calls Tryd.prog 25 #[.string s] w fun e w' => RetG s.data.toList w e w' := by
  obtain ⟨i0, hi, hz0, hz1, hz2⟩ := info_parts infoEdge
  have hba := (Below.refl w.heap.size w).alloc (Nat.le_refl _) (.cells #[.int .i64 0, .slice none 0 0] 36)
  have hsz := size_dataB s
  have hG0 := GBox.new w 36 0 none 0 0
  by_cases hlong : 20000 < s.size
  · have HR := Lib.hid (readGraphL_long (l := s.data.toList) (by rw [hsz]; exact hlong))
    have hli : (20000 : Int) < (s.size : Int) := by omega
    obtain ⟨x0, x1, y0, y1⟩ := hG0
    go_enter Tryd.func25, Tryd.ntmps25
    go_wp2
    refine bodyPost_ret (v := .tuple #[.agg #[.int .i64 0, .slice none 0 0], .int .i64 2]) (by simp [results, Tryd.results25, go_sem]) rfl ?_
    exact ⟨⟨0, none, 0, 0, []⟩, by rw [HR.out], by rw [rgD_no HR.out]; rfl, own_nil _ _ _ (Nat.le_refl _) _, Nat.zero_le _, hba⟩
  · have hli : ¬ (20000 : Int) < (s.size : Int) := by omega
    have hlen := cutAt_len 10 s.data.toList
    have hba2 := hba.alloc hba.size (.cells #[.int .i64 0, .slice none 0 0] 36)
    have hG1 := GBox.new (w.alloc (.cells #[.int .i64 0, .slice none 0 0] 36)) 36 0 none 0 0
    have hG0' := hG0.below ((Below.refl _ _).alloc (Nat.le_refl _) (.cells #[.int .i64 0, .slice none 0 0] 36))
    have cl := fun w hm => linesOf_impl s hs w hm
    have hmem : ∀ p ∈ linesL s.data.toList, p.length ≤ s.size := fun p hp => by
      rw [← hsz]
      refine cutAt_mem_len 10 s.data.toList p ?_
      obtain ⟨hne, e⟩ := linesL_of (s := s.data.toList) rfl
      rw [e] at hp
      split at hp
      · exact List.mem_of_mem_take hp
      · exact hp
    go_enter Tryd.func25, Tryd.ntmps25
    go_wp2_with fail
    refine (cl _ (hm.later hba2 (Nat.le_refl _))).mono ?_
    rintro e w1 ⟨a1, n1, k1, rfl, hr1, hg1, hb1⟩
    have B1 := hba2.trans (hb1.mono (by simp; omega))
    have hGR := hG0'.below hb1
    have hGG := hG1.below hb1
    simp only [World.size_alloc] at hGG
    have hN : (linesL s.data.toList).length = n1 := by have := hr1.len; rwa [List.length_map] at this
    have hle1 := hr1.le
    have hmx1 := hr1.max
    unfold maxLen at hmx1
    by_cases hn0 : n1 = 0
    · have HR := Lib.hid (readGraphL_none (l := s.data.toList) (by rw [hsz]; exact hlong) (List.eq_nil_of_length_eq_zero (by omega)))
      have hni : ((n1 : Int) == 0) = true := by simp; omega
      obtain ⟨x0, x1, y0, y1⟩ := hGR
      clear cl hG0 hG1 hG0' hGG
      go_wp2
      refine bodyPost_ret (v := .tuple #[.agg #[.int .i64 0, .slice none 0 0], .int .i64 1]) (by simp [results, Tryd.results25, go_sem, x0, x1]) rfl ?_
      exact ⟨⟨0, none, 0, 0, []⟩, by rw [HR.out], by rw [rgD_no HR.out]; rfl, own_nil _ _ _ (Nat.le_refl _) _, Nat.zero_le _, (B1.setCell (p := ⟨w.heap.size, 0, none⟩) (Nat.le_refl _) _).setCell (p := ⟨w.heap.size, 1, none⟩) (Nat.le_refl _) _⟩
    · have hni : ((n1 : Int) == 0) = false := by simp; omega
      have hs1 : w.heap.size + 2 ≤ w1.heap.size := by have := hb1.size; simpa using this
      have hz : ∀ p ∈ linesL s.data.toList, (mkB p).size ≤ 1048576 := fun p hp => by rw [mkB_size]; exact Nat.le_trans (hmem p hp) hs
      have HLg : Hid (¬ 20000 < s.data.toList.length) := Lib.hid (by rw [hsz]; exact hlong)
      have H0 : Hid (RdSt s.data.toList w w1 w1 0 0 none 0 0 []) := Lib.hid ⟨hGR, hGG, OutRow.nil _ _ _ _ _, rfl, Nat.zero_le _, Or.inl ⟨rfl, rfl, rfl⟩, Win.refl _ _ _⟩
      have hn1 := hn0
      clear cl hG0 hG1 hG0' hGG hGR hlong hmem hba hba2 hb1 hli hn0
      go_wp2
      go_loopw [24] (fun i wr => ∃ (k : Nat) (nn : Int) (A : Option Addr) (m C : Nat) (es : List EdgeD), k ≤ n1 ∧ i = .int .i64 k ∧ Hid (RdSt s.data.toList w w1 wr k nn A m C es)) (fun i _ => n1 - (intOf i).toNat)
      case atStart => exact ⟨0, 0, none, 0, 0, [], Nat.zero_le _, rfl, H0⟩
      case round =>
        obtain ⟨k, nn, A, m, C, es, hk, rfl, HI⟩ := hrel
        clear H0
        have BW : Below w.heap.size w wr := B1.trans (HI.out.win.below (by omega) B1.size)
        have hsr := HI.out.win.size
        obtain ⟨x0, x1, y0, y1⟩ := HI.out.res
        obtain ⟨g0, g1, e0, e1⟩ := HI.out.g
        by_cases hlt : k < n1
        · obtain ⟨b1, off1, hab, hbl1, hc1⟩ := hr1.strs (by omega)
          have hb1g := hg1 b1 off1 hab
          simp only [World.size_alloc] at hb1g
          subst hab
          have hkx : k < (linesL s.data.toList).length := by rw [hN]; exact hlt
          have hcell : wr.cell? ⟨b1, off1 + k, none⟩ = some (.string (mkB (linesL s.data.toList)[k])) := by
            have := hc1 k hlt
            rw [atS_eq _ _ (by rw [List.length_map]; exact hkx), List.getElem_map] at this
            exact cell_win HI.out.win this (Or.inr (by omega))
          have hi1 : (k : Int) < (n1 : Int) := by omega
          have hpz := hz _ (List.getElem_mem hkx)
          have HD : Hid ((linesL s.data.toList).drop k = (linesL s.data.toList)[k] :: (linesL s.data.toList).drop (k + 1)) := Lib.hid (List.drop_eq_getElem_cons hkx)
          have hpr := hp.later BW (Nat.le_refl _)
          have her := he.later BW (Nat.le_refl _)
          have hmr := hm.later BW (Nat.le_refl _)
          clear hc1
          generalize (linesL s.data.toList)[k] = p at *
          by_cases hk0 : k = 0
          · subst hk0
            obtain ⟨hnn, hes⟩ : nn = 0 ∧ es = [] := by
              rcases HI.out.rel with h | h
              · exact ⟨h.2.1, h.2.2⟩
              · exact absurd h.1 (Nat.lt_irrefl 0)
            subst hnn
            subst hes
            have hm0 : m = 0 := HI.out.len.symm
            subst hm0
            have HH := Lib.hid (readGraphL_head HLg.out (by have := HD.out; rwa [List.drop_zero] at this))
            have q := fun w hp he => textNum_impl (mkB p) hpz w hp he
            simp only [mkB_data] at q
            unfold RetTN at q
            obtain ⟨⟨v, b⟩, ht⟩ : ∃ x, textNumL p = x := ⟨_, rfl⟩
            rw [ht] at q HH
            simp only [Nat.add_zero] at hcell
            have hnum : b = true → 0 ≤ v ∧ v ≤ 281474976710655 := fun hb => by
              subst hb
              obtain ⟨u, rfl, hu, _⟩ := textNumL_yes ht
              omega
            clear ht hpz
            generalize mkB p = S at *
            clear x0 x1 y0 y1 g0 g1 e0 e1
            go_wp2_with fail
            refine (q _ hpr her).mono ?_
            rintro e w2 ⟨rfl, hb2⟩
            have BW2 := BW.trans (hb2.mono BW.size)
            have hR2 := HI.out.res.below hb2
            have hG2 := HI.out.g.below hb2
            have hO2 := HI.out.row.below hb2
            have hW2 := HI.out.win.trans (Win.of_below hb2)
            have HR2 := Lib.hid hR2
            have HG2 := Lib.hid hG2
            obtain ⟨x0, x1, y0, y1⟩ := hR2
            obtain ⟨g0, g1, e0, e1⟩ := hG2
            simp only
            cases b with
            | false =>
              have HR : Hid (readGraphL s.data.toList = ((0, []), 1)) := Lib.hid (by rw [HH.out]; rfl)
              go_wp2
              refine bodyPost_ret (v := .tuple #[.agg #[.int .i64 0, .slice none 0 0], .int .i64 1]) (by simp [results, Tryd.results25, go_sem, x0, x1]) rfl ?_
              exact ⟨⟨0, none, 0, 0, []⟩, by rw [HR.out], by rw [rgD_no HR.out]; rfl, own_nil _ _ _ (Nat.le_refl _) _, Nat.zero_le _, (BW2.setCell (p := ⟨w.heap.size, 0, none⟩) (Nat.le_refl _) _).setCell (p := ⟨w.heap.size, 1, none⟩) (Nat.le_refl _) _⟩
            | true =>
              by_cases hv : 150 < v
              · have HR : Hid (readGraphL s.data.toList = ((0, []), 2)) := Lib.hid (by rw [HH.out]; simp [hv])
                go_wp2
                refine bodyPost_ret (v := .tuple #[.agg #[.int .i64 0, .slice none 0 0], .int .i64 2]) (by simp [results, Tryd.results25, go_sem, x0, x1]) rfl ?_
                exact ⟨⟨0, none, 0, 0, []⟩, by rw [HR.out], by rw [rgD_no HR.out]; rfl, own_nil _ _ _ (Nat.le_refl _) _, Nat.zero_le _, (BW2.setCell (p := ⟨w.heap.size, 0, none⟩) (Nat.le_refl _) _).setCell (p := ⟨w.heap.size, 1, none⟩) (Nat.le_refl _) _⟩
              · have HR : Hid (readGraphL s.data.toList = readRest v ((linesL s.data.toList).drop 1) []) := Lib.hid (by rw [HH.out]; simp [hv])
                have HW : Win (w.heap.size + 1) (w.heap.size + 2) w2 (w2.setCell ⟨w.heap.size + 1, 0, none⟩ (.int .i64 v)) := Win.set _ _ _ _ (Nat.le_refl _) (Nat.lt_succ_self _)
                have HN : Hid (RdSt s.data.toList w w1 (w2.setCell ⟨w.heap.size + 1, 0, none⟩ (.int .i64 v)) 1 v A 0 C []) := Lib.hid ⟨HR2.out.win HW (Or.inl (Nat.lt_succ_self _)), HG2.out.setN v, hO2.win HW (Nat.le_refl _) hs1, rfl, Nat.zero_le _, Or.inr ⟨Nat.one_pos, HR.out⟩, hW2.trans HW⟩
                clear hO2 hW2 HW
                go_wp2
                go_roundw
                case rel => exact ⟨1, v, A, 0, C, [], by omega, by go_num, HN⟩
                case measure => simp [intOf]; omega
          · have hkp : 0 < k := by omega
            have hki : ((k : Int) == 0) = false := by simp; omega
            have HH : Hid (readGraphL s.data.toList = readRest nn (p :: (linesL s.data.toList).drop (k + 1)) es) := Lib.hid (by
              rcases HI.out.rel with h | h
              · exact absurd h.1 hk0
              · rw [h.2, HD.out])
            have q := fun w hm hp he => readEdge_impl (mkB p) hpz nn w hm hp he
            simp only [mkB_data] at q
            unfold RetRE at q
            rw [readRest_cons] at HH
            obtain ⟨⟨⟨f, t, x⟩, ok⟩, hr⟩ : ∃ x, readEdgeL p nn = x := ⟨_, rfl⟩
            rw [hr] at q HH
            clear hr hpz
            generalize mkB p = S at *
            have hlen := HI.out.len
            have hm4 := HI.out.le
            clear x0 x1 y0 y1 e0 e1
            go_wp2_with fail
            refine (q _ hmr hpr her).mono ?_
            rintro e w2 ⟨rfl, hb2⟩
            have hb3 : Below wr.heap.size wr (w2.alloc (.cells #[.int .i64 f, .int .i64 t, .int .i64 x] 50)) := hb2.alloc hb2.size _
            have BW2 := BW.trans (hb3.mono BW.size)
            have hR2 := HI.out.res.below hb3
            have hG2 := HI.out.g.below hb3
            have hO2 := HI.out.row.below hb3
            have hW2 := HI.out.win.trans (Win.of_below hb3)
            have HG2 := Lib.hid hG2
            have HR2 := Lib.hid hR2
            obtain ⟨x0, x1, y0, y1⟩ := hR2
            obtain ⟨g0, g1, e0, e1⟩ := hG2
            simp only
            cases ok with
            | false =>
              have HR : Hid (readGraphL s.data.toList = ((0, []), 1)) := Lib.hid (by rw [HH.out]; rfl)
              go_wp2
              refine bodyPost_ret (v := .tuple #[.agg #[.int .i64 0, .slice none 0 0], .int .i64 1]) (by simp [results, Tryd.results25, go_sem, x0, x1]) rfl ?_
              exact ⟨⟨0, none, 0, 0, []⟩, by rw [HR.out], by rw [rgD_no HR.out]; rfl, own_nil _ _ _ (Nat.le_refl _) _, Nat.zero_le _, (BW2.setCell (p := ⟨w.heap.size, 0, none⟩) (Nat.le_refl _) _).setCell (p := ⟨w.heap.size, 1, none⟩) (Nat.le_refl _) _⟩
            | true =>
              by_cases h4 : 400 ≤ m
              · have HR : Hid (readGraphL s.data.toList = ((0, []), 2)) := Lib.hid (by rw [HH.out, hlen]; simp [h4])
                have h4i : (400 : Int) ≤ (m : Int) := by omega
                go_wp2
                refine bodyPost_ret (v := .tuple #[.agg #[.int .i64 0, .slice none 0 0], .int .i64 2]) (by simp [results, Tryd.results25, go_sem, x0, x1]) rfl ?_
                exact ⟨⟨0, none, 0, 0, []⟩, by rw [HR.out], by rw [rgD_no HR.out]; rfl, own_nil _ _ _ (Nat.le_refl _) _, Nat.zero_le _, (BW2.setCell (p := ⟨w.heap.size, 0, none⟩) (Nat.le_refl _) _).setCell (p := ⟨w.heap.size, 1, none⟩) (Nat.le_refl _) _⟩
              · have HR : Hid (readGraphL s.data.toList = readRest nn ((linesL s.data.toList).drop (k + 1)) (es ++ [(f, t, x)])) := Lib.hid (by rw [HH.out, hlen]; simp [h4])
                have h4i : ¬ (400 : Int) ≤ (m : Int) := by omega
                have hs2 := hb2.size
                have z0 : (w2.alloc (.cells #[.int .i64 f, .int .i64 t, .int .i64 x] 50)).cell? ⟨w2.heap.size, 0, none⟩ = some (.int .i64 f) := by simp [go_sem]
                have hbA : Below (w2.heap.size + 1) (w2.alloc (.cells #[.int .i64 f, .int .i64 t, .int .i64 x] 50)) ((w2.alloc (.cells #[.int .i64 f, .int .i64 t, .int .i64 x] 50)).alloc (.cells #[.int .i64 f, .int .i64 t, .int .i64 x] 50)) := (Below.refl _ _).alloc (by simp) _
                go_wp2_with (at_builtin; refine app_out rfl _ _ 34 rfl (w.heap.size + 2) w1.heap.size 50 Tryd.underlying34 hi hz0 hz1 hz2 rfl (by decide) A m C ((es.map eR).flatMap encEdge) rfl (hO2.alloc _) ⟨w2.heap.size + 1, 0, none⟩ 1 1 [.int .i64 f, .int .i64 t, .int .i64 x] rfl rfl ?c3 (by intro u hu; simp at hu; rcases hu with rfl | rfl | rfl <;> rfl) (by decide) ?c4 ?c5 ?c6 ?c7 ?_)
                case c4 => unfold maxLen; omega
                case c5 => omega
                case c7 => omega
                intro A2 C2 w4 ho2 hb4
                have hal3 := (Below.refl (w2.alloc (.cells #[.int .i64 f, .int .i64 t, .int .i64 x] 50)).heap.size (w2.alloc (.cells #[.int .i64 f, .int .i64 t, .int .i64 x] 50))).alloc (Nat.le_refl _) (.cells #[.int .i64 f, .int .i64 t, .int .i64 x] 50)
                have hW4 := (hW2.trans (Win.of_below hal3)).then_below hb4
                have hG4 := (HG2.out.below hal3).keep (hb4.block _ (by omega))
                have hR4 := (HR2.out.below hal3).keep (hb4.block _ (by omega))
                have HW : Win (w.heap.size + 1) (w.heap.size + 2) w4 (w4.setCell ⟨w.heap.size + 1, 1, none⟩ (.slice A2 (m + 1) C2)) := Win.set _ _ _ _ (Nat.le_refl _) (Nat.lt_succ_self _)
                have HN : Hid (RdSt s.data.toList w w1 (w4.setCell ⟨w.heap.size + 1, 1, none⟩ (.slice A2 (m + 1) C2)) (k + 1) nn A2 (m + 1) C2 (es ++ [(f, t, x)])) := Lib.hid ⟨hR4.win HW (Or.inl (Nat.lt_succ_self _)), hG4.setE _ _ _, OutRow.win (by rw [List.map_append, List.flatMap_append]; exact ho2) HW (Nat.le_refl _) hs1, by rw [List.length_append, hlen]; rfl, by omega, Or.inr ⟨Nat.succ_pos _, HR.out⟩, hW4.trans HW⟩
                obtain ⟨g0', g1', e0', e1'⟩ := hG4
                clear hO2 hW2 HW hW4 hR4 hal3 hb4 ho2 hbA z0 x0 x1 y0 y1 g0 g1 e0 e1 hb3 hb2
                go_wp2
                go_roundw
                case rel => exact ⟨k + 1, nn, A2, m + 1, C2, es ++ [(f, t, x)], by omega, by go_num, HN⟩
                case measure => simp [intOf]; omega
        · obtain rfl : k = n1 := by omega
          have HR : Hid (readGraphL s.data.toList = ((nn, es), 0)) := Lib.hid (by
            rcases HI.out.rel with h | h
            · exact absurd h.1 hn1
            · rw [h.2, List.drop_of_length_le (by omega)]; rfl)
          have HW : Win w.heap.size (w.heap.size + 1) wr ((wr.setCell ⟨w.heap.size, 0, none⟩ (.int .i64 nn)).setCell ⟨w.heap.size, 1, none⟩ (.slice A m C)) := (Win.set _ _ _ _ (Nat.le_refl _) (Nat.lt_succ_self _)).trans (Win.set _ _ _ _ (Nat.le_refl _) (Nat.lt_succ_self _))
          have HO := Lib.hid (HI.out.row.win HW (by omega) hs1)
          have HBW := Lib.hid (BW.trans (HW.below (Nat.le_refl _) BW.size))
          have HLN := Lib.hid HI.out.len
          have hm4 := HI.out.le
          clear HW BW
          go_wp2
          refine bodyPost_ret (v := .tuple #[.agg #[.int .i64 nn, .slice A m C], .int .i64 0]) (by simp [results, Tryd.results25, go_sem, x0, x1]) rfl ?_
          refine ⟨⟨nn, A, m, C, es.map eR⟩, by rw [HR.out], by unfold rgD datGraph; rw [HR.out], ⟨?_, Nat.le_refl _⟩, ?_, HBW.out⟩
          · exact (OwnS.of HO.out.1 (by rw [List.length_map]; exact HLN.out) (by show m ≤ _; omega)).lo_le (by omega)
          · show m ≤ 1048576
            omega
end Go.Proofs.YtgkgbpgnbnledaaDoor

/- Numbers and records that are drawn. -/
import Derived.Test.YthffmjeodoinlaaDraw
import Derived.Test.YthffmjeodoinlaaRecSK
import Derived.Test.YthffmjeodoinlaaSortOne
namespace Go.Proofs.Ythffmjeodoinlaa
open Go.RowKit
/-- A draw that gives any number. -/
def RetRaw (R : Nat) (a : Option Addr) (n cap : Nat) (w : World) (en : Ending) (w' : World) : Prop := ∃ z : Int, en = .returned (.int .i64 z) ∧ Cur w' R a n cap ∧ Win R (R + 1) w w'
set_option maxRecDepth 100000 in
set_option maxHeartbeats 3200000 in
theorem l01Raw_any (R : Nat) (a : Option Addr) (n cap : Nat) (zs : List Int) (w0 w : World) (h : Rd (encI .u8) 1 w0 a n cap zs) (hb0 : Below w0.heap.size w0 w) (hRw : w0.heap.size ≤ R) (hC : Cur w R a n cap) (hn : n ≤ 1048576) :
    Calls Try.prog 93 #[.pointer (some ⟨R, 0, none⟩)] w fun e w' => RetRaw R a n cap w e w' := by
  have hRl := hC.lt
  have hC0 := hC
  clear hC
  go_enter Try.func93, Try.ntmps93
  go_wp2_with fail
  refine (l01Below_any R a n cap zs 12 (by omega) w0 _ h hb0 hRw hC0 hn).mono ?_
  rintro e w1 ⟨x, rfl, hx0, _, hx1, hC1, hW1⟩
  have hx2 := hx1 (by omega)
  have hb1 : Below w0.heap.size w0 w1 := hb0.trans (hW1.below hRw hb0.size)
  clear hx1
  simp only
  by_cases c : x < 5
  · skip
    go_wp2_with fail
    refine (l01Below_any R a n cap zs 12 (by omega) w0 _ h hb1 hRw hC1 hn).mono ?_
    rintro e w2 ⟨y, rfl, hy0, _, hy1, hC2, hW2⟩
    have hy2 := hy1 (by omega)
    have hb2 : Below w0.heap.size w0 w2 := hb1.trans (hW2.below hRw hb1.size)
    clear hy1
    simp only
    go_wp2
    go_ret
    exact ⟨_, rfl, hC2, hW1.trans hW2⟩
  · by_cases c5 : x = 5
    · subst c5
      go_wp2_with fail
      refine (l01Below_any R a n cap zs 256 (by omega) w0 _ h hb1 hRw hC1 hn).mono ?_
      rintro e w2 ⟨y, rfl, hy0, _, hy1, hC2, hW2⟩
      have hy2 := hy1 (by omega)
      have hb2 : Below w0.heap.size w0 w2 := hb1.trans (hW2.below hRw hb1.size)
      clear hy1
      simp only
      go_wp2
      go_ret
      exact ⟨_, rfl, hC2, hW1.trans hW2⟩
    · by_cases c6 : x = 6
      · subst c6
        go_wp2_with fail
        refine (l01Below_any R a n cap zs 2 (by omega) w0 _ h hb1 hRw hC1 hn).mono ?_
        rintro e w2 ⟨y, rfl, hy0, _, hy1, hC2, hW2⟩
        have hy2 := hy1 (by omega)
        have hb2 : Below w0.heap.size w0 w2 := hb1.trans (hW2.below hRw hb1.size)
        clear hy1
        simp only
        go_wp2_with fail
        refine (l01Below_any R a n cap zs 3 (by omega) w0 _ h hb2 hRw hC2 hn).mono ?_
        rintro e w3 ⟨z, rfl, hz0, _, hz1, hC3, hW3⟩
        have hz2 := hz1 (by omega)
        have hb3 : Below w0.heap.size w0 w3 := hb2.trans (hW3.below hRw hb2.size)
        clear hz1
        simp only
        go_wp2
        go_ret
        exact ⟨_, rfl, hC3, (hW1.trans hW2).trans hW3⟩
      · by_cases c7 : x = 7
        · subst c7
          go_wp2_with fail
          refine (l01Below_any R a n cap zs 3 (by omega) w0 _ h hb1 hRw hC1 hn).mono ?_
          rintro e w2 ⟨y, rfl, hy0, _, hy1, hC2, hW2⟩
          have hy2 := hy1 (by omega)
          have hb2 : Below w0.heap.size w0 w2 := hb1.trans (hW2.below hRw hb1.size)
          clear hy1
          simp only
          go_wp2
          go_ret
          exact ⟨_, rfl, hC2, hW1.trans hW2⟩
        · by_cases c8 : x = 8
          · subst c8
            go_wp2_with fail
            refine (l01Below_any R a n cap zs 2 (by omega) w0 _ h hb1 hRw hC1 hn).mono ?_
            rintro e w2 ⟨y, rfl, hy0, _, hy1, hC2, hW2⟩
            have hy2 := hy1 (by omega)
            have hb2 : Below w0.heap.size w0 w2 := hb1.trans (hW2.below hRw hb1.size)
            clear hy1
            simp only
            go_wp2
            go_ret
            exact ⟨_, rfl, hC2, hW1.trans hW2⟩
          · by_cases c9 : x = 9
            · subst c9
              go_wp2_with fail
              refine (l01Below_any R a n cap zs 2 (by omega) w0 _ h hb1 hRw hC1 hn).mono ?_
              rintro e w2 ⟨y, rfl, hy0, _, hy1, hC2, hW2⟩
              have hy2 := hy1 (by omega)
              have hb2 : Below w0.heap.size w0 w2 := hb1.trans (hW2.below hRw hb1.size)
              clear hy1
              simp only
              go_wp2
              go_ret
              exact ⟨_, rfl, hC2, hW1.trans hW2⟩
            · by_cases c10 : x = 10
              · subst c10
                have hal := (Below.refl w1.heap.size w1).alloc (Nat.le_refl _) (.cells #[.int .i64 127, .int .i64 128, .int .i64 16383, .int .i64 16384, .int .i64 140737488355327, .int .i64 140737488355328, .int .i64 (-140737488355328), .int .i64 (-140737488355329)] 3)
                have hbA := hb1.trans (hal.mono hb1.size)
                have hCA := hC1.below hal
                go_wp2_with fail
                refine (l01Below_any R a n cap zs 8 (by omega) w0 _ h hbA hRw hCA hn).mono ?_
                rintro e w2 ⟨y, rfl, hy0, _, hy1, hC2, hW2⟩
                have hy2 := hy1 (by omega)
                have hlt := hC1.lt
                have key : ∃ z : Int, w2.cell? ⟨w1.heap.size, y.toNat, none⟩ = some (.int .i64 z) := by
                  have : y = 0 ∨ y = 1 ∨ y = 2 ∨ y = 3 ∨ y = 4 ∨ y = 5 ∨ y = 6 ∨ y = 7 := by omega
                  rcases this with rfl | rfl | rfl | rfl | rfl | rfl | rfl | rfl <;> exact ⟨_, cell_win hW2 (by simp [go_sem]; rfl) (by omega)⟩
                obtain ⟨z, hz⟩ := key
                obtain ⟨Y, rfl⟩ := Int.eq_ofNat_of_zero_le hy0
                have hY8 : Y < 8 := by omega
                have hYi : (Y : Int) < 8 := by omega
                simp only [Int.toNat_natCast] at hz
                clear hy1
                simp only
                go_wp2
                go_ret
                exact ⟨_, rfl, hC2, (hW1.trans (Win.of_below hal)).trans hW2⟩
              · have hx11 : x = 11 := by omega
                subst hx11
                go_wp2_with fail
                refine (l01Below_any R a n cap zs 65536 (by omega) w0 _ h hb1 hRw hC1 hn).mono ?_
                rintro e w2 ⟨y, rfl, hy0, _, hy1, hC2, hW2⟩
                have hy2 := hy1 (by omega)
                have hb2 : Below w0.heap.size w0 w2 := hb1.trans (hW2.below hRw hb1.size)
                clear hy1
                simp only
                go_wp2_with fail
                refine (l01Below_any R a n cap zs 65536 (by omega) w0 _ h hb2 hRw hC2 hn).mono ?_
                rintro e w3 ⟨z, rfl, hz0, _, hz1, hC3, hW3⟩
                have hz2 := hz1 (by omega)
                have hb3 : Below w0.heap.size w0 w3 := hb2.trans (hW3.below hRw hb2.size)
                clear hz1
                simp only
                go_wp2
                go_ret
                exact ⟨_, rfl, hC3, (hW1.trans hW2).trans hW3⟩
/-- A record in a block of the call's own. -/
structure Box3 (w : World) (B : Nat) (x y z : Int) : Prop where
  c0 : w.cell? ⟨B, 0, none⟩ = some (.int .i64 x)
  c1 : w.cell? ⟨B, 1, none⟩ = some (.int .i64 y)
  c2 : w.cell? ⟨B, 2, none⟩ = some (.int .i64 z)
  f0 : w.frozen? ⟨B, 0, none⟩ = false
  f1 : w.frozen? ⟨B, 1, none⟩ = false
  f2 : w.frozen? ⟨B, 2, none⟩ = false
theorem Box3.lt {w : World} {B : Nat} {x y z : Int} (h : Box3 w B x y z) : B < w.heap.size := World.block_lt_of_cell? _ _ h.c0
theorem Box3.keep {w w' : World} {B : Nat} {x y z : Int} (h : Box3 w B x y z) (hb : w'.heap[B]? = w.heap[B]?) : Box3 w' B x y z := by
  have c : ∀ o, w'.cell? ⟨B, o, none⟩ = w.cell? ⟨B, o, none⟩ := fun o => World.cell?_of_block (w := w) (a := ⟨B, o, none⟩) hb
  have f : ∀ o, w'.frozen? ⟨B, o, none⟩ = w.frozen? ⟨B, o, none⟩ := fun o => by unfold World.frozen?; rw [hb]
  exact ⟨(c 0).trans h.c0, (c 1).trans h.c1, (c 2).trans h.c2, (f 0).trans h.f0, (f 1).trans h.f1, (f 2).trans h.f2⟩
theorem Box3.below {w w' : World} {B : Nat} {x y z : Int} (h : Box3 w B x y z) (hb : Below w.heap.size w w') : Box3 w' B x y z := h.keep (hb.block B h.lt)
theorem Box3.win {w w' : World} {B R : Nat} {x y z : Int} (h : Box3 w B x y z) (hw : Win R (R + 1) w w') (hd : B ≠ R) : Box3 w' B x y z := h.keep (hw.block B h.lt (by omega))
theorem Box3.new (w : World) (t : TypeId) (x y z : Int) : Box3 (w.alloc (.cells #[.int .i64 x, .int .i64 y, .int .i64 z] t)) w.heap.size x y z := ⟨by simp [go_sem], by simp [go_sem], by simp [go_sem], by simp [go_sem], by simp [go_sem], by simp [go_sem]⟩
theorem Box3.put {w : World} {B : Nat} {x y z : Int} (h : Box3 w B x y z) (v : Int) : Box3 (w.setCell ⟨B, 1, none⟩ (.int .i64 v)) B x v z :=
  ⟨by rw [World.cell?_setCell_other _ _ _ _ (by simp)]; exact h.c0, World.cell?_setCell_same _ _ _ h.c1, by rw [World.cell?_setCell_other _ _ _ _ (by simp)]; exact h.c2, by rw [World.frozen?_setCell]; exact h.f0, by rw [World.frozen?_setCell]; exact h.f1, by rw [World.frozen?_setCell]; exact h.f2⟩
/-- A record that is drawn. -/
def RetRecD (R : Nat) (a : Option Addr) (n cap : Nat) (w : World) (en : Ending) (w' : World) : Prop := ∃ x : RecR, en = .returned (.agg #[.int .i64 x.a, .int .i64 x.b, .int .i64 x.c]) ∧ Cur w' R a n cap ∧ Win R (R + 1) w w'
set_option maxRecDepth 100000 in
set_option maxHeartbeats 3200000 in
theorem l06Rec_any (R : Nat) (a : Option Addr) (n cap : Nat) (zs : List Int) (w0 w : World) (h : Rd (encI .u8) 1 w0 a n cap zs) (hb0 : Below w0.heap.size w0 w) (hRw : w0.heap.size ≤ R) (hC : Cur w R a n cap) (hn : n ≤ 1048576) :
    Calls Try.prog 69 #[.pointer (some ⟨R, 0, none⟩)] w fun e w' => RetRecD R a n cap w e w' := by
  have hRl := hC.lt
  have ha0 := (Below.refl w.heap.size w).alloc (Nat.le_refl _) (.cells #[.int .i64 0, .int .i64 0, .int .i64 0] 41)
  have hbS := hb0.trans (ha0.mono hb0.size)
  have hCS := hC.below ha0
  have N0 := Box3.new w 41 0 0 0
  have hRne : w.heap.size ≠ R := by omega
  have HW0 : Win R (R + 1) w (w.alloc (.cells #[.int .i64 0, .int .i64 0, .int .i64 0] 41)) := Win.of_below ha0
  go_enter Try.func69, Try.ntmps69
  go_wp2_with fail
  refine (l01Below_any R a n cap zs 3 (by omega) w0 _ h hbS hRw hCS hn).mono ?_
  rintro e w1 ⟨x, rfl, hx0, _, hx1, hC1, hW1⟩
  have hb1 : Below w0.heap.size w0 w1 := hbS.trans (hW1.below hRw hbS.size)
  have N1 := N0.win hW1 hRne
  have HW1 := HW0.trans hW1
  simp only
  clear hx1 N0 HW0
  go_wp2_with fail
  refine (l01Below_any R a n cap zs 4 (by omega) w0 _ h hb1 hRw hC1 hn).mono ?_
  rintro e w2 ⟨y, rfl, hy0, _, hy1, hC2, hW2⟩
  have hy2 := hy1 (by omega)
  have hb2 : Below w0.heap.size w0 w2 := hb1.trans (hW2.below hRw hb1.size)
  clear hy1
  simp only
  have N2 := N1.win hW2 hRne
  have HW2 := HW1.trans hW2
  clear N1 HW1
  go_wp2_with fail
  refine (l01Below_any R a n cap zs 5 (by omega) w0 _ h hb2 hRw hC2 hn).mono ?_
  rintro e w3 ⟨z, rfl, hz0, _, hz1, hC3, hW3⟩
  have hz2 := hz1 (by omega)
  have hb3 : Below w0.heap.size w0 w3 := hb2.trans (hW3.below hRw hb2.size)
  clear hz1
  simp only
  have N3 := N2.win hW3 hRne
  have HW3 := HW2.trans hW3
  have ha3 := (Below.refl w3.heap.size w3).alloc (Nat.le_refl _) (.cells #[.int .i64 x, .int .i64 y, .int .i64 z] 41)
  have B0 := Box3.new w3 41 x y z
  have hbT := hb3.trans (ha3.mono hb3.size)
  have hCT := hC3.below ha3
  have NT := N3.below ha3
  have HWT := HW3.trans (Win.of_below ha3)
  have hR3 : w3.heap.size ≠ R := by have := hC3.lt; omega
  have hN3 := N3.lt
  clear N2 HW2 N3 HW3
  go_wp2_with fail
  refine (l01Below_any R a n cap zs 20 (by omega) w0 _ h hbT hRw hCT hn).mono ?_
  rintro e w4 ⟨q, rfl, hq0, _, hq1, hC4, hW4⟩
  have hb4 : Below w0.heap.size w0 w4 := hbT.trans (hW4.below hRw hbT.size)
  have N4 := NT.win hW4 hRne
  have B4 := B0.win hW4 hR3
  have HW4 := HWT.trans hW4
  simp only
  clear hq1 NT B0 HWT
  have fin : ∀ (y' : Int) (w5 : World), Box3 w5 w3.heap.size x y' z → Box3 w5 w.heap.size 0 0 0 → Cur w5 R a n cap → Win R (R + 1) w w5 → RetRecD R a n cap w (.returned (.agg #[.int .i64 x, .int .i64 y', .int .i64 z])) (((w5.setCell ⟨w.heap.size, 0, none⟩ (.int .i64 x)).setCell ⟨w.heap.size, 1, none⟩ (.int .i64 y')).setCell ⟨w.heap.size, 2, none⟩ (.int .i64 z)) := by
    intro y' w5 _ hN hC5 hW5
    have hw : Win w.heap.size (w.heap.size + 1) w5 (((w5.setCell ⟨w.heap.size, 0, none⟩ (.int .i64 x)).setCell ⟨w.heap.size, 1, none⟩ (.int .i64 y')).setCell ⟨w.heap.size, 2, none⟩ (.int .i64 z)) := ((Win.set _ _ _ _ (Nat.le_refl _) (Nat.lt_succ_self _)).trans (Win.set _ _ _ _ (Nat.le_refl _) (Nat.lt_succ_self _))).trans (Win.set _ _ _ _ (Nat.le_refl _) (Nat.lt_succ_self _))
    have hbl := hw.below (B := w.heap.size) (Nat.le_refl _) hW5.size
    exact ⟨⟨x, y', z⟩, rfl, hC5.keep (hw.block R hC5.lt (by omega)), hW5.then_below hbl⟩
  have FIN := Lib.hid fin
  clear fin
  by_cases c : q = 0
  · subst c
    go_wp2_with fail
    refine (l01Raw_any R a n cap zs w0 _ h hb4 hRw hC4 hn).mono ?_
    rintro e w5 ⟨v, rfl, hC5, hW5⟩
    have N5 := N4.win hW5 hRne
    have B5 := B4.win hW5 hR3
    have HW5 := HW4.trans hW5
    simp only
    clear N4 B4 HW4
    have hw6 : Win w3.heap.size (w3.heap.size + 1) w5 (w5.setCell ⟨w3.heap.size, 1, none⟩ (.int .i64 v)) := Win.set _ _ _ _ (Nat.le_refl _) (Nat.lt_succ_self _)
    have B6 := B5.put v
    have N6 : Box3 (w5.setCell ⟨w3.heap.size, 1, none⟩ (.int .i64 v)) w.heap.size 0 0 0 := N5.keep (hw6.block _ N5.lt (by omega))
    have C6 := hC5.keep (hw6.block R hC5.lt (by omega))
    have W6 := HW5.then_below (hw6.below (B := w.heap.size) (by omega) HW5.size)
    have F := Lib.hid (FIN.out v _ B6 N6 C6 W6)
    have g1 := B5.c1
    have g2 := B5.f1
    obtain ⟨b0, b1, b2, e0, e1, e2⟩ := B6
    obtain ⟨n0, n1, n2, m0, m1, m2⟩ := N6
    clear hw6 N5 B5 HW5 W6 C6
    go_wp2
    refine bodyPost_ret (v := .agg #[.int .i64 x, .int .i64 v, .int .i64 z]) (by simp [results, Try.results69, go_sem, n0, n1, n2]) rfl ?_
    exact F.out
  · have ci : ((q : Int) == 0) = false := by simp; omega
    have F := Lib.hid (FIN.out y _ B4 N4 hC4 HW4)
    obtain ⟨b0, b1, b2, e0, e1, e2⟩ := B4
    obtain ⟨n0, n1, n2, m0, m1, m2⟩ := N4
    go_wp2
    refine bodyPost_ret (v := .agg #[.int .i64 x, .int .i64 y, .int .i64 z]) (by simp [results, Try.results69, go_sem, n0, n1, n2]) rfl ?_
    exact F.out
/-- Records that are drawn. -/
def RetRecsD (R : Nat) (a : Option Addr) (n cap : Nat) (most : Nat) (w : World) (en : Ending) (w' : World) : Prop := ∃ r : Row RecR, en = .returned (.slice r.a r.n r.c) ∧ OwnRecS w.heap.size w'.heap.size w' r ∧ r.n ≤ most ∧ Cur w' R a n cap ∧ Win R (R + 1) w w'
set_option maxRecDepth 100000 in
set_option maxHeartbeats 3200000 in
theorem l06Recs_any (R : Nat) (a : Option Addr) (n cap : Nat) (zs : List Int) (most : Nat) (hmost : most ≤ 1000) (w0 w : World) (h : Rd (encI .u8) 1 w0 a n cap zs) (hb0 : Below w0.heap.size w0 w) (hRw : w0.heap.size ≤ R) (hC : Cur w R a n cap) (hn : n ≤ 1048576) :
    Calls Try.prog 47 #[.pointer (some ⟨R, 0, none⟩), .int .i64 most] w fun e w' => RetRecsD R a n cap most w e w' := by
  have hRl := hC.lt
  obtain ⟨i0, hi, hz0, hz1, hz2⟩ := info_parts infoRec
  have hww : wrap64 ((most : Int) + 1) = (most : Int) + 1 := IntWalk.wrap64_in _ ⟨by omega, by omega⟩
  have hO : (w.alloc (.cells #[] 41)).ownsRow w.heap.size 41 3 (.slice (some ⟨w.heap.size, 0, none⟩) 0 0) 0 [] := World.ownsRow_lit w #[] 0 (Nat.le_refl _) (by unfold maxLen; omega) (by simp)
  have ha0 := (Below.refl w.heap.size w).alloc (Nat.le_refl _) (.cells #[] 41)
  have hbS := hb0.trans (ha0.mono hb0.size)
  have hCS := hC.below ha0
  go_enter Try.func47, Try.ntmps47
  go_wp2_with fail
  refine (l01Below_any R a n cap zs _ (by omega) w0 _ h hbS hRw hCS hn).mono ?_
  rintro e w1 ⟨x, rfl, hx0, _, hx1, hC1, hW1⟩
  have hx2 := hx1 (by omega)
  clear hx1
  have HW1 : Win R (R + 1) w w1 := (Win.of_below ha0).trans hW1
  have hO1 := own_win hO hW1 (fun g hg => Or.inr (by cases hg; show R + 1 ≤ w.heap.size; omega))
  obtain ⟨N, rfl⟩ := Int.eq_ofNat_of_zero_le hx0
  simp only
  go_wp2
  go_loopw [5, 6] (fun v i wr => ∃ (k : Nat) (a' : Option Addr) (c' : Nat) (ys : List RecR), k ≤ N ∧ i = .int .i64 ((N - k : Nat) : Int) ∧ v = .slice a' k c' ∧ wr.ownsRow w.heap.size 41 3 (.slice a' k c') k (ys.flatMap encRec) ∧ ys.length = k ∧ Cur wr R a n cap ∧ Win R (R + 1) w wr) (fun _ i _ => (intOf i).toNat)
  case atStart => exact ⟨0, _, 0, [], Nat.zero_le _, rfl, rfl, hO1, rfl, hC1, HW1⟩
  case round =>
    obtain ⟨k, a', c', ys, hk, rfl, rfl, ho, hy, hC, hW⟩ := hrel
    have HY := Lib.hid hy
    clear hy hC1 hO hO1
    have hb := hb0.trans (hW.below hRw hb0.size)
    have hsw := hW.size
    by_cases hlt : k < N
    · have hki : (0 : Int) < ((N - k : Nat) : Int) := by omega
      go_wp2_with fail
      refine (l06Rec_any R a n cap zs w0 _ h hb hRw hC hn).mono ?_
      rintro e w2 ⟨⟨xa, xb, xc⟩, rfl, hC2, hW2⟩
      simp only
      have ho2 := own_win ho hW2 (fun g hg => Or.inr (by have h7 := (World.ownsRow.lt ho g hg).1; omega))
      have hs2 := hW2.size
      go_wp2_with (at_builtin; refine app_any rfl _ _ 24 rfl w.heap.size 41 Try.underlying24 hi hz0 hz1 hz2 rfl (by decide) a' k c' (ys.flatMap encRec) rfl (own_below ho2 ((Below.refl _ _).alloc (Nat.le_refl _) _) (Nat.le_refl _)) (some ⟨w2.heap.size, 0, none⟩) 1 1 (encRec ⟨xa, xb, xc⟩) rfl rfl (fun ad had => by cases had; exact World.news_of_block (heap_alloc_new w2 (.cells #[.int .i64 xa, .int .i64 xb, .int .i64 xc] 41))) (fun hh => by cases hh) (by intro u hu; simp [encRec] at hu; rcases hu with rfl | rfl | rfl <;> rfl) ?e4 ?e5 ?e6 ?_)
      case e4 => unfold maxLen; omega
      case e5 => omega
      case e6 => simp; omega
      intro A C w3 ho3 hb3
      have hal : Below w2.heap.size w2 (w2.alloc (.cells #[.int .i64 xa, .int .i64 xb, .int .i64 xc] 41)) := (Below.refl _ _).alloc (Nat.le_refl _) _
      have hb4 : Below w.heap.size w2 w3 := (hal.mono (by omega)).trans hb3
      have hin : wrap64 (((N - k : Nat) : Int) - 1) = ((N - (k + 1) : Nat) : Int) := by rw [IntWalk.wrap64_in _ ⟨by omega, by omega⟩]; omega
      have hin2 : ((N - k : Nat) : Int) - 1 = ((N - (k + 1) : Nat) : Int) := by omega
      go_wp2
      go_roundw
      case rel => exact ⟨k + 1, A, C, ys ++ [⟨xa, xb, xc⟩], by omega, by first | rfl | (congr 1), rfl, by rw [List.flatMap_append]; exact ho3, by rw [List.length_append, HY.out]; rfl, hC2.keep (hb4.block R (by omega)), (hW.trans hW2).then_below hb4⟩
      case measure => simp [intOf]; omega
    · obtain rfl : k = N := by omega
      have hki : ¬ (0 : Int) < ((k - k : Nat) : Int) := by omega
      go_wp2
      go_ret
      exact ⟨⟨a', k, c', ys⟩, rfl, ⟨OwnS.of ho HY.out (show k ≤ _ by omega)⟩, by show k ≤ most; omega, hC, hW⟩
/-- Records that are made of the code. -/
def RetMade (most : Nat) (w : World) (en : Ending) (w' : World) : Prop := ∃ r : Row RecR, en = .returned (.slice r.a r.n r.c) ∧ OwnRecS w.heap.size w'.heap.size w' r ∧ r.n ≤ most ∧ Below w.heap.size w w'
set_option maxRecDepth 100000 in
set_option maxHeartbeats 800000 in
theorem makeRecs_any (a : Option Addr) (n cap : Nat) (zs : List Int) (w : World) (h : Rd (encI .u8) 1 w a n cap zs) (hn : n ≤ 1048576) :
    Calls Try.prog 22 #[.slice a n cap] w fun e w' => RetMade 16 w e w' := by
  go_enter Try.func22, Try.ntmps22
  go_wp2_with fail
  refine (l01New_any a n cap zs _ h hn).mono ?_
  rintro e w1 ⟨R, rfl, hR, hC, hb⟩
  have hs := hb.size
  go_wp2_with fail
  refine (l06Recs_any R a n cap zs 16 (by omega) w _ h hb hR hC hn).mono ?_
  rintro e w2 ⟨r, rfl, ho, hr, _, hW⟩
  go_wp2
  go_ret
  exact ⟨r, rfl, ho.lo_le hs, hr, hb.trans (hW.below hR hb.size)⟩
end Go.Proofs.Ythffmjeodoinlaa

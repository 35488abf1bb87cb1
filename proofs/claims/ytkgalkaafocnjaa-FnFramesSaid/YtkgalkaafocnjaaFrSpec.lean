/- FrameRead of the reference: what it computes. -/
import Derived.Test.YtkgalkaafocnjaaFrSame
import Derived.Test.YtkgalkaafocnjaaStr
import Derived.Test.YtkgalkaafocnjaaKeep
namespace Go.Proofs.Ytkgalkaafocnjaa
open Go.RowKit
set_option maxRecDepth 100000 in
set_option maxHeartbeats 16000000 in
theorem frameRead_spec (a : Option Addr) (n cap : Nat) (zs : List Int) (p : Int) (w : World) (h : Rd (encI .u8) 1 w a n cap zs) (g0 : ∀ y ∈ zs, In8 y) (g1 : In64 p) (hn : n ≤ 1099511627775) :
    Calls Try.prog 37 #[.slice a n cap, .int .i64 p] w fun e w' => RetFr (frameReadF zs p) w e w' := by
  have hL := Lib.hid h.len
  have hm := h.max
  have hle := h.le
  unfold maxLen at hm
  unfold In64 at g1
  have hb0 := (Below.refl w.heap.size w).alloc (Nat.le_refl _) (.cells #[.int .i64 0, .slice none 0 0] 43)
  by_cases h0 : 0 ≤ p ∧ p ≤ (n : Int)
  · obtain ⟨h1, h2⟩ := h0
    obtain ⟨q, rfl⟩ := Int.eq_ofNat_of_zero_le h1
    have HF := Lib.hid (frameReadF_in zs (q := q) (by rw [hL.out]; omega))
    obtain ⟨l, hl⟩ : ∃ l, l = zs.drop q := ⟨_, rfl⟩
    rw [← hl] at HF
    have HLL := Lib.hid hl
    have hll : l.length = n - q := by rw [hl, List.length_drop, hL.out]
    have HLEN := Lib.hid hll
    have h8l : ∀ y ∈ l, In8 y := by rw [hl]; exact fun y hy => g0 y (List.mem_of_mem_drop hy)
    clear hl hll
    by_cases h14 : n - q < 14
    · have H2 := Lib.hid (frameReadL_2 (l := l) (q : Int) (by rw [HLEN.out]; exact h14))
      have h14i : (n : Int) - (q : Int) < 14 := by omega
      go_enter Try.func37, Try.ntmps37
      go_wp2
      refine bodyPost_ret (v := .tuple #[.agg #[.int .i64 0, .slice none 0 0], .int .i64 0, .int .i64 2]) (by simp [results, Try.results37, go_sem]) rfl ?_
      rw [HF.out, H2.out]
      exact ⟨none, 0, 0, rfl, OwnI.nil _ _ _ _, hb0⟩
    · have hql : q < cap := by omega
      obtain ⟨b1, off1, rfl, hbl1, hc1⟩ := h.ints (by omega)
      have HR := Lib.hid h
      have hN48 : frN l < 281474976710656 := fixN_win l h8l 2 6 (Nat.le_refl _)
      have hH48 : frH l < 281474976710656 := fixN_win l h8l 8 6 (Nat.le_refl _)
      have G2 : Hid (getFixF zs ((q : Int) + 2) = ((frN l : Int), true)) := Lib.hid (by
        have := getFixF_yes zs (p := q + 2) (by rw [hL.out]; omega)
        rw [show ((q : Int) + 2) = ((q + 2 : Nat) : Int) from by omega, this]
        unfold frN; rw [HLL.out, List.drop_drop])
      have G8 : Hid (getFixF zs ((q : Int) + 8) = ((frH l : Int), true)) := Lib.hid (by
        have := getFixF_yes zs (p := q + 8) (by rw [hL.out]; omega)
        rw [show ((q : Int) + 8) = ((q + 8 : Nat) : Int) from by omega, this]
        unfold frH; rw [HLL.out, List.drop_drop])
      have hget : ∀ j, l.getD j 0 = zs.getD (q + j) 0 := fun j => by rw [HLL.out]; simp [List.getD]
      obtain ⟨A, hA⟩ : ∃ A, A = l.getD 0 0 := ⟨_, rfl⟩
      obtain ⟨K, hK⟩ : ∃ K, K = l.getD 1 0 := ⟨_, rfl⟩
      obtain ⟨a0, a1⟩ : 0 ≤ A ∧ A ≤ 255 := by rw [hA]; simpa [List.getD] using in8_getD h8l 0
      obtain ⟨b0, b255⟩ : 0 ≤ K ∧ K ≤ 255 := by rw [hK]; simpa [List.getD] using in8_getD h8l 1
      have HC0 : Hid (∀ w', Below w.heap.size w w' → w'.cell? ⟨b1, off1 + q, none⟩ = some (.int .u8 A)) := fun w' hb => by
        have e := hc1 q (by omega)
        rw [hA, hget 0]
        exact (hb.cell (p := ⟨b1, off1 + q, none⟩) hbl1).trans e
      have HC1 : Hid (∀ w', Below w.heap.size w w' → w'.cell? ⟨b1, off1 + (q + 1), none⟩ = some (.int .u8 K)) := fun w' hb => by
        have e := hc1 (q + 1) (by omega)
        rw [hK, hget 1]
        exact (hb.cell (p := ⟨b1, off1 + (q + 1), none⟩) hbl1).trans e
      have HA := Lib.hid hA
      have HKK := Lib.hid hK
      clear hA hK hc1 hget
      obtain ⟨N, hN⟩ : ∃ N, N = frN l := ⟨_, rfl⟩
      obtain ⟨H, hH⟩ : ∃ H, H = frH l := ⟨_, rfl⟩
      rw [← hN] at G2 hN48
      rw [← hH] at G8 hH48
      have HNN := Lib.hid hN
      have HHH := Lib.hid hH
      clear hN hH
      have hq14 : (14 : Int) ≤ (n : Int) - (q : Int) := by omega
      have hq1 : (q : Int) + 1 < (n : Int) := by omega
      have hq0 : (q : Int) < (n : Int) := by omega
      have hq8 : (q : Int) + 8 ≤ (cap : Int) := by omega
      have hnl14 : ¬ l.length < 14 := by rw [HLEN.out]; omega
      have HNL := Lib.hid hnl14
      clear hnl14 h14
      by_cases hA71 : A = 71
      · subst hA71
        cases hkb : kindB K with
        | false =>
          have H3 := Lib.hid (frameReadL_3 (l := l) (q : Int) HNL.out (Or.inr (Or.inl (by rw [← HKK.out]; exact hkb))))
          have HKB := Lib.hid hkb
          have hkr : K < 1 ∨ 3 < K := by
            cases Int.lt_or_le K 1 with
            | inl h => exact Or.inl h
            | inr h =>
              right
              by_cases h3 : K ≤ 3
              · have : kindB K = true := by simp [kindB]; omega
                rw [HKB.out] at this; cases this
              · omega
          clear hkb
          rcases hkr with hkr | hkr
          · go_enter Try.func37, Try.ntmps37
            go_wp2_with fail
            refine (getFix_spec ((q : Int) + 2) _ _ _ zs _ (HR.out.below hb0 (Nat.le_refl _)) g0 (by unfold In64; omega)).mono ?_
            rintro e w1 ⟨rfl, hb1⟩
            rw [G2.out]
            have BB1 := hb0.trans (hb1.mono (by simp))
            go_wp2_with fail
            refine (getFix_spec ((q : Int) + 8) _ _ _ zs _ (HR.out.below BB1 (Nat.le_refl _)) g0 (by unfold In64; omega)).mono ?_
            rintro e w2 ⟨rfl, hb2⟩
            rw [G8.out]
            have BB2 := BB1.trans (hb2.mono BB1.size)
            have hbW : Below (w.heap.size + 1) (w.alloc (.cells #[.int .i64 0, .slice none 0 0] 43)) w2 := (hb1.mono (by simp)).trans (hb2.mono (by have := hb1.size; simpa using this))
            have k0 := HC0.out _ BB2
            have k1 := HC1.out _ BB2
            have hsW := hbW.size
            have hz : w.heap.size < w2.heap.size := by simp at hsW; omega
            have hbl2 : b1 < w2.heap.size := by have := BB2.size; omega
            obtain ⟨hc, hf⟩ := bcell hbW
            have x0 : w2.cell? ⟨w.heap.size, 0, none⟩ = some (.int .i64 0) := by rw [hc _ _ (by simp)]; simp [go_sem]
            have x1 : w2.cell? ⟨w.heap.size, 1, none⟩ = some (.slice none 0 0) := by rw [hc _ _ (by simp)]; simp [go_sem]
            have y0 : w2.frozen? ⟨w.heap.size, 0, none⟩ = false := by rw [hf _ _ (by simp)]; simp [go_sem]
            have y1 : w2.frozen? ⟨w.heap.size, 1, none⟩ = false := by rw [hf _ _ (by simp)]; simp [go_sem]
            clear hc hf hbW hb1 hb2 BB1 hsW
            go_wp2
            refine bodyPost_ret (v := .tuple #[.agg #[.int .i64 0, .slice none 0 0], .int .i64 0, .int .i64 3]) (by simp [results, Try.results37, go_sem, hz, x0, x1]) rfl ?_
            rw [HF.out, H3.out]
            exact ⟨none, 0, 0, rfl, OwnI.nil _ _ _ _, ((BB2.setCell (p := ⟨w.heap.size, 0, none⟩) (Nat.le_refl _) (.int .i64 0)).setCell (p := ⟨w.heap.size, 1, none⟩) (Nat.le_refl _) (.slice none 0 0)).alloc (by simp only [size_set]; exact BB2.size) _⟩
          · go_enter Try.func37, Try.ntmps37
            go_wp2_with fail
            refine (getFix_spec ((q : Int) + 2) _ _ _ zs _ (HR.out.below hb0 (Nat.le_refl _)) g0 (by unfold In64; omega)).mono ?_
            rintro e w1 ⟨rfl, hb1⟩
            rw [G2.out]
            have BB1 := hb0.trans (hb1.mono (by simp))
            go_wp2_with fail
            refine (getFix_spec ((q : Int) + 8) _ _ _ zs _ (HR.out.below BB1 (Nat.le_refl _)) g0 (by unfold In64; omega)).mono ?_
            rintro e w2 ⟨rfl, hb2⟩
            rw [G8.out]
            have BB2 := BB1.trans (hb2.mono BB1.size)
            have hbW : Below (w.heap.size + 1) (w.alloc (.cells #[.int .i64 0, .slice none 0 0] 43)) w2 := (hb1.mono (by simp)).trans (hb2.mono (by have := hb1.size; simpa using this))
            have k0 := HC0.out _ BB2
            have k1 := HC1.out _ BB2
            have hsW := hbW.size
            have hz : w.heap.size < w2.heap.size := by simp at hsW; omega
            have hbl2 : b1 < w2.heap.size := by have := BB2.size; omega
            obtain ⟨hc, hf⟩ := bcell hbW
            have x0 : w2.cell? ⟨w.heap.size, 0, none⟩ = some (.int .i64 0) := by rw [hc _ _ (by simp)]; simp [go_sem]
            have x1 : w2.cell? ⟨w.heap.size, 1, none⟩ = some (.slice none 0 0) := by rw [hc _ _ (by simp)]; simp [go_sem]
            have y0 : w2.frozen? ⟨w.heap.size, 0, none⟩ = false := by rw [hf _ _ (by simp)]; simp [go_sem]
            have y1 : w2.frozen? ⟨w.heap.size, 1, none⟩ = false := by rw [hf _ _ (by simp)]; simp [go_sem]
            clear hc hf hbW hb1 hb2 BB1 hsW
            go_wp2
            refine bodyPost_ret (v := .tuple #[.agg #[.int .i64 0, .slice none 0 0], .int .i64 0, .int .i64 3]) (by simp [results, Try.results37, go_sem, hz, x0, x1]) rfl ?_
            rw [HF.out, H3.out]
            exact ⟨none, 0, 0, rfl, OwnI.nil _ _ _ _, ((BB2.setCell (p := ⟨w.heap.size, 0, none⟩) (Nat.le_refl _) (.int .i64 0)).setCell (p := ⟨w.heap.size, 1, none⟩) (Nat.le_refl _) (.slice none 0 0)).alloc (by simp only [size_set]; exact BB2.size) _⟩
        | true =>
          have hk13 : 1 ≤ K ∧ K ≤ 3 := by simp [kindB] at hkb; omega
          obtain ⟨kk1, kk3⟩ := hk13
          have HKB := Lib.hid hkb
          have RD8 : Hid (∀ w', Below w.heap.size w w' → Rd (encI .u8) 1 w' (some ⟨b1, off1 + q, none⟩) 8 (cap - q) (l.take 8)) := Lib.hid (fun w' hb => by
            have := (HR.out.below hb (Nat.le_refl _)).window q (q + 8) (by omega) (by omega)
            rw [Nat.add_sub_cancel_left, ← HLL.out] at this
            exact this)
          clear hkb
          by_cases hN6 : N ≤ 60000
          · have hN6i : (N : Int) ≤ 60000 := by omega
            by_cases hcrc : H = crcN (l.take 8)
            · have hcri : ((H : Int) != (crcN (l.take 8) : Int)) = false := by simp [hcrc]
              have HNB : Hid (¬ frBad l) := fun hh => by
                rcases hh with hh | hh | hh | hh
                · rw [← HA.out] at hh; exact hh rfl
                · rw [← HKK.out, HKB.out] at hh; cases hh
                · rw [← HNN.out] at hh; omega
                · rw [← HHH.out] at hh; exact hh hcrc
              have HCRC := Lib.hid hcrc
              clear hcrc
              by_cases h20 : 20 + N ≤ n - q
              · have HN4 : Hid (¬ l.length < 20 + frN l) := by show ¬ _; rw [HLEN.out, ← HNN.out]; omega
                have h20i : (N : Int) ≤ (n : Int) - (q : Int) - 20 := by omega
                have hD8 : ∀ y ∈ frD l, In8 y := in8_win h8l 20 (frN l)
                by_cases hc20 : cap = q + 20
                · obtain rfl : N = 0 := by omega
                  subst hc20
                  obtain rfl : n = q + 20 := by omega
                  clear hN6i h20i
                  have hD0 : frD l = [] := by unfold frD; rw [← HNN.out]; rfl
                  have RDD : Hid (∀ w', Below w.heap.size w w' → Rd (encI .u8) 1 w' (some ⟨b1, off1, none⟩) 0 0 (frD l)) := Lib.hid (fun w' hb => by
                    rw [hD0]
                    exact ⟨Nat.le_refl _, by unfold maxLen; omega, rfl, (fun hh => by cases hh), fun hn => absurd hn (Nat.lt_irrefl _)⟩)
                  clear hD0
                  have RD8b : Hid (∀ w', Below w.heap.size w w' → Rd (encI .u8) 1 w' (some ⟨b1, off1 + q, none⟩) 8 20 (l.take 8)) := Lib.hid (fun w' hb => by
                    have := RD8.out w' hb
                    rw [Nat.add_sub_cancel_left] at this
                    exact this)
                  clear RD8
                  have RD8 := RD8b
                  obtain ⟨i0, hi, hz0, hz1, hz2⟩ := info_parts infoByteS
                  go_enter Try.func37, Try.ntmps37
                  go_wp2_with fail
                  refine (getFix_spec ((q : Int) + 2) _ _ _ zs _ (HR.out.below hb0 (Nat.le_refl _)) g0 (by unfold In64; omega)).mono ?_
                  rintro e w1 ⟨rfl, hb1⟩
                  rw [G2.out]
                  have BB1 := hb0.trans (hb1.mono (by simp))
                  go_wp2_with fail
                  refine (getFix_spec ((q : Int) + 8) _ _ _ zs _ (HR.out.below BB1 (Nat.le_refl _)) g0 (by unfold In64; omega)).mono ?_
                  rintro e w2 ⟨rfl, hb2⟩
                  rw [G8.out]
                  have BB2 := BB1.trans (hb2.mono BB1.size)
                  have hbW : Below (w.heap.size + 1) (w.alloc (.cells #[.int .i64 0, .slice none 0 0] 43)) w2 := (hb1.mono (by simp)).trans (hb2.mono (by have := hb1.size; simpa using this))
                  have k0 := HC0.out _ BB2
                  have k1 := HC1.out _ BB2
                  have hsW := hbW.size
                  have hz : w.heap.size < w2.heap.size := by simp at hsW; omega
                  have hbl2 : b1 < w2.heap.size := by have := BB2.size; omega
                  obtain ⟨hc, hf⟩ := bcell hbW
                  have x0 : w2.cell? ⟨w.heap.size, 0, none⟩ = some (.int .i64 0) := by rw [hc _ _ (by simp)]; simp [go_sem]
                  have x1 : w2.cell? ⟨w.heap.size, 1, none⟩ = some (.slice none 0 0) := by rw [hc _ _ (by simp)]; simp [go_sem]
                  have y0 : w2.frozen? ⟨w.heap.size, 0, none⟩ = false := by rw [hf _ _ (by simp)]; simp [go_sem]
                  have y1 : w2.frozen? ⟨w.heap.size, 1, none⟩ = false := by rw [hf _ _ (by simp)]; simp [go_sem]
                  clear hc hf hbW hb1 hb2 BB1 hsW
                  have hbx := (Below.refl w2.heap.size w2).alloc (Nat.le_refl _) (.cells #[.int .i64 K, .slice none 0 0] 43)
                  have BBx := BB2.trans (hbx.mono BB2.size)
                  go_wp2_with fail
                  refine (crc_spec _ _ _ (l.take 8) _ (RD8.out _ BBx) (fun y hy => h8l y (List.mem_of_mem_take hy))).mono ?_
                  rintro e w3 ⟨rfl, hb3⟩
                  have BB3 := BBx.trans (hb3.mono BBx.size)
                  have hz3 : w.heap.size < w3.heap.size := by have := hb3.size; simp at this; omega
                  have hz23 : w2.heap.size < w3.heap.size := by have := hb3.size; simp at this; omega
                  obtain ⟨hc, hf⟩ := bcell hb3
                  have z0 : w3.cell? ⟨w.heap.size, 0, none⟩ = some (.int .i64 0) := by rw [hc _ _ (by simp; omega)]; simp [go_sem, hz, x0]
                  have z1 : w3.cell? ⟨w.heap.size, 1, none⟩ = some (.slice none 0 0) := by rw [hc _ _ (by simp; omega)]; simp [go_sem, hz, x1]
                  have u0 : w3.frozen? ⟨w.heap.size, 0, none⟩ = false := by rw [hf _ _ (by simp; omega)]; simp [go_sem, hz, y0]
                  have u1 : w3.frozen? ⟨w.heap.size, 1, none⟩ = false := by rw [hf _ _ (by simp; omega)]; simp [go_sem, hz, y1]
                  have f0 : w3.cell? ⟨w2.heap.size, 0, none⟩ = some (.int .i64 K) := by rw [hc _ _ (by simp)]; simp [go_sem]
                  have f1 : w3.cell? ⟨w2.heap.size, 1, none⟩ = some (.slice none 0 0) := by rw [hc _ _ (by simp)]; simp [go_sem]
                  have fz0 : w3.frozen? ⟨w2.heap.size, 0, none⟩ = false := by rw [hf _ _ (by simp)]; simp [go_sem]
                  have fz1 : w3.frozen? ⟨w2.heap.size, 1, none⟩ = false := by rw [hf _ _ (by simp)]; simp [go_sem]
                  clear hc hf hb3 BBx hbx x0 x1 y0 y1 k0 k1
                  go_wp2_with (at_builtin; refine app_any rfl _ _ 22 rfl w3.heap.size 5 Try.underlying22 hi hz0 hz1 hz2 rfl (by decide) _ 0 0 [] rfl (World.ownsRow_lit w3 #[] 0 (Nat.le_refl _) (by unfold maxLen; omega) rfl) _ _ _ ((frD l).map (.int .u8)) rfl ?d0 ?d1 ?d2 ?d3 ?d4 ?d5 ?d6 ?_)
                  case d0 => rw [List.length_map, Nat.mul_one]; exact (RDD.out w (Below.refl _ _)).len
                  case d1 => exact (RDD.out _ (BB3.alloc BB3.size _)).news
                  case d3 => exact ints_oneCell _ _
                  case d4 => unfold maxLen; omega
                  case d5 => omega
                  case d6 => simp
                  intro A2 C2 w4 ho4 hb4
                  try simp only [Nat.zero_add, List.nil_append] at ho4
                  have hb34 : Below w3.heap.size w3 w4 := ((Below.refl w3.heap.size w3).alloc (Nat.le_refl _) (.cells #[] 5)).trans hb4
                  have g0' := cell_later hb34 f0
                  have g1' := cell_later hb34 f1
                  have gz1 := (hb34.frozen (p := ⟨w2.heap.size, 1, none⟩) hz23).trans fz1
                  have z0' := cell_later hb34 z0
                  have z1' := cell_later hb34 z1
                  have BB4 := BB3.trans (hb34.mono BB3.size)
                  have hDN : (frD l).length = 0 := (RDD.out w (Below.refl _ _)).len
                  have HFB : Hid (frameBytesF K (frD l) = (frameL K (frD l), true)) := Lib.hid (frameBytesF_yes (by unfold frameOkB; rw [HKB.out, hDN]; simp <;> omega))
                  have hwS := Win.set (lo := w2.heap.size) (hi := w2.heap.size + 1) w4 w2.heap.size 1 (.slice A2 0 C2) (Nat.le_refl _) (Nat.lt_succ_self _)
                  have ho4s := own_win ho4 hwS (fun g hg => Or.inr (by have h7 := (World.ownsRow.lt ho4 g hg).1; omega))
                  have rd4 := Rd.of_ints ho4s hDN
                  have BB4s := BB4.setCell (p := ⟨w2.heap.size, 1, none⟩) (by show w.heap.size ≤ w2.heap.size; omega) (.slice A2 0 C2)
                  have hz24 : w2.heap.size < w4.heap.size := Nat.lt_of_lt_of_le hz23 hb34.size
                  have hz4 : w.heap.size < w4.heap.size := by omega
                  go_wp2_with fail
                  refine (frameBytes_spec K A2 0 C2 (frD l) _ rd4 hD8).mono ?_
                  rintro e w5 ⟨a5, n5, c5, rfl, ho5, hb5⟩
                  rw [HFB.out] at ho5 ⊢
                  simp only at ho5
                  have BB5 := BB4s.trans (hb5.mono BB4s.size)
                  have hlenF : 20 + frN l ≤ l.length := by rw [HLEN.out, ← HNN.out]; exact h20
                  have HSAME := Lib.hid (frame_same (l := l) h8l HA.out.symm (by rw [← HHH.out]; exact HCRC.out) hlenF)
                  rw [← HNN.out, ← HKK.out] at HSAME
                  have n0 : w2.heap.size ≠ w.heap.size := by omega
                  have g0'' := cell_later hb5 (show (w4.setCell ⟨w2.heap.size, 1, none⟩ (.slice A2 0 C2)).cell? ⟨w2.heap.size, 0, none⟩ = some (.int .i64 K) from (World.cell?_setCell_other _ _ _ _ (show (⟨w2.heap.size, 1, none⟩ : Addr) ≠ ⟨w2.heap.size, 0, none⟩ from by simp)).trans g0')
                  have g1'' := cell_later hb5 (show (w4.setCell ⟨w2.heap.size, 1, none⟩ (.slice A2 0 C2)).cell? ⟨w2.heap.size, 1, none⟩ = some (.slice A2 0 C2) from World.cell?_setCell_same _ _ _ g1')
                  have z0'' := cell_later hb5 (show (w4.setCell ⟨w2.heap.size, 1, none⟩ (.slice A2 0 C2)).cell? ⟨w.heap.size, 0, none⟩ = some (.int .i64 0) from (World.cell?_setCell_far _ _ _ _ n0).trans z0')
                  have z1'' := cell_later hb5 (show (w4.setCell ⟨w2.heap.size, 1, none⟩ (.slice A2 0 C2)).cell? ⟨w.heap.size, 1, none⟩ = some (.slice none 0 0) from (World.cell?_setCell_far _ _ _ _ n0).trans z1')
                  have v0 : w5.frozen? ⟨w.heap.size, 0, none⟩ = false := (hb5.frozen (p := ⟨w.heap.size, 0, none⟩) (by simp only [size_set]; exact hz4)).trans ((World.frozen?_setCell ..).trans ((hb34.frozen (p := ⟨w.heap.size, 0, none⟩) hz3).trans u0))
                  have v1 : w5.frozen? ⟨w.heap.size, 1, none⟩ = false := (hb5.frozen (p := ⟨w.heap.size, 1, none⟩) (by simp only [size_set]; exact hz4)).trans ((World.frozen?_setCell ..).trans ((hb34.frozen (p := ⟨w.heap.size, 1, none⟩) hz3).trans u1))
                  have hz5 : w.heap.size < w5.heap.size := World.block_lt_of_cell? _ _ z0''
                  have HOWN := Lib.hid (own_below ho4s hb5 (Nat.le_refl _))
                  have kW : ∀ nq, (convert 22 9 (.slice a5 n5 c5)).run Try.prog (w5.drewN nq) = .ok (.string (strOfNums (frameL K (frD l)))) (w5.drewN nq) := fun nq => (ho5.rd.drewN nq).str Try.underlying22 Try.underlying5 Try.underlying9
                  have kB : ∀ nq, (convert 22 9 (.slice (some ⟨b1, off1 + q, none⟩) 20 20)).run Try.prog (w5.drewN nq) = .ok (.string (strOfNums (l.take (20 + 0)))) (w5.drewN nq) := fun nq => by
                    have := (((HR.out.below BB5 (Nat.le_refl _)).window q (q + 20) (by omega) (by omega)).drewN nq).str (P := Try.prog) (dst := 9) Try.underlying22 Try.underlying5 Try.underlying9
                    rw [HLL.out]
                    simp only [Nat.add_sub_cancel_left] at this
                    exact this
                  have hse := str_eq (frameL_in8 kk1 kk3 hD8) (show ∀ y ∈ l.take (20 + 0), In8 y from fun y hy => h8l y (List.mem_of_mem_take hy))
                  have s1 : IntKind.i64.wrap ((q : Int) + 20) = (q : Int) + 20 := IntWalk.i64_in _ (by omega)
                  have s2 : IntKind.i64.wrap ((q : Int) + 20 + ((0 : Nat) : Int)) = (q : Int) + 20 + ((0 : Nat) : Int) := IntWalk.i64_in _ (by omega)
                  have s3 : (0 : Int) ≤ (q : Int) + 20 := by omega
                  have s4 : (0 : Int) ≤ (q : Int) + 20 + ((0 : Nat) : Int) := by omega
                  have s5 : ((q : Int) + 20 + ((0 : Nat) : Int)).toNat = q + 20 + 0 := by omega
                  clear hb5 hb34 g0' g1' gz1 z0' z1' ho4 ho4s ho5 hwS rd4 BB4 BB4s hlenF HFB f0 f1 fz0 fz1 z0 z1 u0 u1
                  by_cases hs : frS l = crcN (frD l)
                  · have H0 := Lib.hid (frameReadL_0 (l := l) (q : Int) HNL.out HNB.out HN4.out hs)
                    rw [decide_eq_true (HSAME.out.2 hs)] at hse
                    clear hs
                    go_wp2_with fail
                    go_quiet (fail)
                    go_wp2
                    refine bodyPost_ret (v := .tuple #[.agg #[.int .i64 K, .slice A2 0 C2], .int .i64 ((q : Int) + 20 + ((0 : Nat) : Int)), .int .i64 0]) (by simp [results, Try.results37, go_sem, z0'', z1'']) rfl ?_
                    rw [HF.out, H0.out]
                    have hw := (Win.set (lo := w.heap.size) (hi := w.heap.size + 1) (w5.drewN nq) w.heap.size 0 (.int .i64 K) (Nat.le_refl _) (Nat.lt_succ_self _)).trans (Win.set _ w.heap.size 1 (.slice A2 0 C2) (Nat.le_refl _) (Nat.lt_succ_self _))
                    have h5n := own_below HOWN.out (below_drewN (Below.refl w5.heap.size w5) nq) (Nat.le_refl _)
                    have h5o := own_win h5n hw (fun g hg => Or.inr (by have h7 := (World.ownsRow.lt h5n g hg).1; omega))
                    exact ⟨A2, 0, C2, by rw [← HKK.out, ← HNN.out], ((OwnI.of h5o hDN (by omega)).lo_le (by omega)), (below_drewN BB5 nq).trans (hw.below (B := w.heap.size) (Nat.le_refl _) (below_drewN BB5 nq).size)⟩
                  · have H5 := Lib.hid (frameReadL_5 (l := l) (q : Int) HNL.out HNB.out HN4.out hs)
                    rw [decide_eq_false (fun e => hs (HSAME.out.1 e))] at hse
                    clear hs
                    go_wp2_with fail
                    go_quiet (fail)
                    go_wp2
                    refine bodyPost_ret (v := .tuple #[.agg #[.int .i64 0, .slice none 0 0], .int .i64 0, .int .i64 5]) (by simp [results, Try.results37, go_sem, z0'', z1'']) rfl ?_
                    rw [HF.out, H5.out]
                    exact ⟨none, 0, 0, rfl, OwnI.nil _ _ _ _, ((below_drewN BB5 nq).setCell (p := ⟨w.heap.size, 0, none⟩) (Nat.le_refl _) _).setCell (p := ⟨w.heap.size, 1, none⟩) (Nat.le_refl _) _⟩

                · have hlt20 : q + 20 < cap := by omega
                  clear hc20
                  have RDD : Hid (∀ w', Below w.heap.size w w' → Rd (encI .u8) 1 w' (some ⟨b1, off1 + (q + 20), none⟩) N (cap - (q + 20)) (frD l)) := Lib.hid (fun w' hb => by
                    have := (HR.out.below hb (Nat.le_refl _)).window (q + 20) (q + 20 + N) (by omega) (by omega)
                    rw [Nat.add_sub_cancel_left, ← List.drop_drop, ← HLL.out] at this
                    rw [show frD l = (l.drop 20).take N from by unfold frD; rw [← HNN.out]]
                    exact this)
                  have hq20i : (q : Int) + 20 ≤ (cap : Int) := by omega
                  have hq20j : (q : Int) + 20 + (N : Int) ≤ (cap : Int) := by omega
                  obtain ⟨i0, hi, hz0, hz1, hz2⟩ := info_parts infoByteS
                  go_enter Try.func37, Try.ntmps37
                  go_wp2_with fail
                  refine (getFix_spec ((q : Int) + 2) _ _ _ zs _ (HR.out.below hb0 (Nat.le_refl _)) g0 (by unfold In64; omega)).mono ?_
                  rintro e w1 ⟨rfl, hb1⟩
                  rw [G2.out]
                  have BB1 := hb0.trans (hb1.mono (by simp))
                  go_wp2_with fail
                  refine (getFix_spec ((q : Int) + 8) _ _ _ zs _ (HR.out.below BB1 (Nat.le_refl _)) g0 (by unfold In64; omega)).mono ?_
                  rintro e w2 ⟨rfl, hb2⟩
                  rw [G8.out]
                  have BB2 := BB1.trans (hb2.mono BB1.size)
                  have hbW : Below (w.heap.size + 1) (w.alloc (.cells #[.int .i64 0, .slice none 0 0] 43)) w2 := (hb1.mono (by simp)).trans (hb2.mono (by have := hb1.size; simpa using this))
                  have k0 := HC0.out _ BB2
                  have k1 := HC1.out _ BB2
                  have hsW := hbW.size
                  have hz : w.heap.size < w2.heap.size := by simp at hsW; omega
                  have hbl2 : b1 < w2.heap.size := by have := BB2.size; omega
                  obtain ⟨hc, hf⟩ := bcell hbW
                  have x0 : w2.cell? ⟨w.heap.size, 0, none⟩ = some (.int .i64 0) := by rw [hc _ _ (by simp)]; simp [go_sem]
                  have x1 : w2.cell? ⟨w.heap.size, 1, none⟩ = some (.slice none 0 0) := by rw [hc _ _ (by simp)]; simp [go_sem]
                  have y0 : w2.frozen? ⟨w.heap.size, 0, none⟩ = false := by rw [hf _ _ (by simp)]; simp [go_sem]
                  have y1 : w2.frozen? ⟨w.heap.size, 1, none⟩ = false := by rw [hf _ _ (by simp)]; simp [go_sem]
                  clear hc hf hbW hb1 hb2 BB1 hsW
                  have hbx := (Below.refl w2.heap.size w2).alloc (Nat.le_refl _) (.cells #[.int .i64 K, .slice none 0 0] 43)
                  have BBx := BB2.trans (hbx.mono BB2.size)
                  go_wp2_with fail
                  refine (crc_spec _ _ _ (l.take 8) _ (RD8.out _ BBx) (fun y hy => h8l y (List.mem_of_mem_take hy))).mono ?_
                  rintro e w3 ⟨rfl, hb3⟩
                  have BB3 := BBx.trans (hb3.mono BBx.size)
                  have hz3 : w.heap.size < w3.heap.size := by have := hb3.size; simp at this; omega
                  have hz23 : w2.heap.size < w3.heap.size := by have := hb3.size; simp at this; omega
                  obtain ⟨hc, hf⟩ := bcell hb3
                  have z0 : w3.cell? ⟨w.heap.size, 0, none⟩ = some (.int .i64 0) := by rw [hc _ _ (by simp; omega)]; simp [go_sem, hz, x0]
                  have z1 : w3.cell? ⟨w.heap.size, 1, none⟩ = some (.slice none 0 0) := by rw [hc _ _ (by simp; omega)]; simp [go_sem, hz, x1]
                  have u0 : w3.frozen? ⟨w.heap.size, 0, none⟩ = false := by rw [hf _ _ (by simp; omega)]; simp [go_sem, hz, y0]
                  have u1 : w3.frozen? ⟨w.heap.size, 1, none⟩ = false := by rw [hf _ _ (by simp; omega)]; simp [go_sem, hz, y1]
                  have f0 : w3.cell? ⟨w2.heap.size, 0, none⟩ = some (.int .i64 K) := by rw [hc _ _ (by simp)]; simp [go_sem]
                  have f1 : w3.cell? ⟨w2.heap.size, 1, none⟩ = some (.slice none 0 0) := by rw [hc _ _ (by simp)]; simp [go_sem]
                  have fz0 : w3.frozen? ⟨w2.heap.size, 0, none⟩ = false := by rw [hf _ _ (by simp)]; simp [go_sem]
                  have fz1 : w3.frozen? ⟨w2.heap.size, 1, none⟩ = false := by rw [hf _ _ (by simp)]; simp [go_sem]
                  clear hc hf hb3 BBx hbx x0 x1 y0 y1 k0 k1
                  go_wp2_with (at_builtin; refine app_any rfl _ _ 22 rfl w3.heap.size 5 Try.underlying22 hi hz0 hz1 hz2 rfl (by decide) _ 0 0 [] rfl (World.ownsRow_lit w3 #[] 0 (Nat.le_refl _) (by unfold maxLen; omega) rfl) _ _ _ ((frD l).map (.int .u8)) rfl ?c0 ?c1 ?c2 ?c3 ?c4 ?c5 ?c6 ?_)
                  case c0 => rw [List.length_map, Nat.mul_one, Nat.add_sub_cancel_left]; exact (RDD.out w (Below.refl _ _)).len
                  case c1 => exact (RDD.out _ (BB3.alloc BB3.size _)).news
                  case c2 => exact fun hh => by cases hh
                  case c3 => exact ints_oneCell _ _
                  case c4 => unfold maxLen; omega
                  case c5 => omega
                  case c6 => simp
                  intro A2 C2 w4 ho4 hb4
                  try simp only [Nat.zero_add, List.nil_append] at ho4
                  have hb34 : Below w3.heap.size w3 w4 := ((Below.refl w3.heap.size w3).alloc (Nat.le_refl _) (.cells #[] 5)).trans hb4
                  have g0' := cell_later hb34 f0
                  have g1' := cell_later hb34 f1
                  have gz1 := (hb34.frozen (p := ⟨w2.heap.size, 1, none⟩) hz23).trans fz1
                  have z0' := cell_later hb34 z0
                  have z1' := cell_later hb34 z1
                  have BB4 := BB3.trans (hb34.mono BB3.size)
                  have hDN : (frD l).length = N := (RDD.out w (Below.refl _ _)).len
                  have HFB : Hid (frameBytesF K (frD l) = (frameL K (frD l), true)) := Lib.hid (frameBytesF_yes (by unfold frameOkB; rw [HKB.out, hDN]; simp <;> omega))
                  have hwS := Win.set (lo := w2.heap.size) (hi := w2.heap.size + 1) w4 w2.heap.size 1 (.slice A2 N C2) (Nat.le_refl _) (Nat.lt_succ_self _)
                  have ho4s := own_win ho4 hwS (fun g hg => Or.inr (by have h7 := (World.ownsRow.lt ho4 g hg).1; omega))
                  have rd4 := Rd.of_ints ho4s hDN
                  have BB4s := BB4.setCell (p := ⟨w2.heap.size, 1, none⟩) (by show w.heap.size ≤ w2.heap.size; omega) (.slice A2 N C2)
                  have hz24 : w2.heap.size < w4.heap.size := Nat.lt_of_lt_of_le hz23 hb34.size
                  have hz4 : w.heap.size < w4.heap.size := by omega
                  go_wp2_with fail
                  refine (frameBytes_spec K A2 N C2 (frD l) _ rd4 hD8).mono ?_
                  rintro e w5 ⟨a5, n5, c5, rfl, ho5, hb5⟩
                  rw [HFB.out] at ho5 ⊢
                  simp only at ho5
                  have BB5 := BB4s.trans (hb5.mono BB4s.size)
                  have hlenF : 20 + frN l ≤ l.length := by rw [HLEN.out, ← HNN.out]; exact h20
                  have HSAME := Lib.hid (frame_same (l := l) h8l HA.out.symm (by rw [← HHH.out]; exact HCRC.out) hlenF)
                  rw [← HNN.out, ← HKK.out] at HSAME
                  have n0 : w2.heap.size ≠ w.heap.size := by omega
                  have g0'' := cell_later hb5 (show (w4.setCell ⟨w2.heap.size, 1, none⟩ (.slice A2 N C2)).cell? ⟨w2.heap.size, 0, none⟩ = some (.int .i64 K) from (World.cell?_setCell_other _ _ _ _ (show (⟨w2.heap.size, 1, none⟩ : Addr) ≠ ⟨w2.heap.size, 0, none⟩ from by simp)).trans g0')
                  have g1'' := cell_later hb5 (show (w4.setCell ⟨w2.heap.size, 1, none⟩ (.slice A2 N C2)).cell? ⟨w2.heap.size, 1, none⟩ = some (.slice A2 N C2) from World.cell?_setCell_same _ _ _ g1')
                  have z0'' := cell_later hb5 (show (w4.setCell ⟨w2.heap.size, 1, none⟩ (.slice A2 N C2)).cell? ⟨w.heap.size, 0, none⟩ = some (.int .i64 0) from (World.cell?_setCell_far _ _ _ _ n0).trans z0')
                  have z1'' := cell_later hb5 (show (w4.setCell ⟨w2.heap.size, 1, none⟩ (.slice A2 N C2)).cell? ⟨w.heap.size, 1, none⟩ = some (.slice none 0 0) from (World.cell?_setCell_far _ _ _ _ n0).trans z1')
                  have v0 : w5.frozen? ⟨w.heap.size, 0, none⟩ = false := (hb5.frozen (p := ⟨w.heap.size, 0, none⟩) (by simp only [size_set]; exact hz4)).trans ((World.frozen?_setCell ..).trans ((hb34.frozen (p := ⟨w.heap.size, 0, none⟩) hz3).trans u0))
                  have v1 : w5.frozen? ⟨w.heap.size, 1, none⟩ = false := (hb5.frozen (p := ⟨w.heap.size, 1, none⟩) (by simp only [size_set]; exact hz4)).trans ((World.frozen?_setCell ..).trans ((hb34.frozen (p := ⟨w.heap.size, 1, none⟩) hz3).trans u1))
                  have hz5 : w.heap.size < w5.heap.size := World.block_lt_of_cell? _ _ z0''
                  have HOWN := Lib.hid (own_below ho4s hb5 (Nat.le_refl _))
                  have kW : ∀ nq, (convert 22 9 (.slice a5 n5 c5)).run Try.prog (w5.drewN nq) = .ok (.string (strOfNums (frameL K (frD l)))) (w5.drewN nq) := fun nq => (ho5.rd.drewN nq).str Try.underlying22 Try.underlying5 Try.underlying9
                  have kB : ∀ nq, (convert 22 9 (.slice (some ⟨b1, off1 + q, none⟩) (q + 20 + N - q) (cap - q))).run Try.prog (w5.drewN nq) = .ok (.string (strOfNums (l.take (20 + N)))) (w5.drewN nq) := fun nq => by
                    have := (((HR.out.below BB5 (Nat.le_refl _)).window q (q + 20 + N) (by omega) (by omega)).drewN nq).str (P := Try.prog) (dst := 9) Try.underlying22 Try.underlying5 Try.underlying9
                    rw [HLL.out, show 20 + N = q + 20 + N - q from by omega]
                    exact this
                  have hse := str_eq (frameL_in8 kk1 kk3 hD8) (show ∀ y ∈ l.take (20 + N), In8 y from fun y hy => h8l y (List.mem_of_mem_take hy))
                  have s1 : IntKind.i64.wrap ((q : Int) + 20) = (q : Int) + 20 := IntWalk.i64_in _ (by omega)
                  have s2 : IntKind.i64.wrap ((q : Int) + 20 + (N : Int)) = (q : Int) + 20 + (N : Int) := IntWalk.i64_in _ (by omega)
                  have s3 : (0 : Int) ≤ (q : Int) + 20 := by omega
                  have s4 : (0 : Int) ≤ (q : Int) + 20 + (N : Int) := by omega
                  have s5 : ((q : Int) + 20 + (N : Int)).toNat = q + 20 + N := by omega
                  clear hb5 hb34 g0' g1' gz1 z0' z1' ho4 ho4s ho5 hwS rd4 BB4 BB4s hlenF HFB f0 f1 fz0 fz1 z0 z1 u0 u1
                  by_cases hs : frS l = crcN (frD l)
                  · have H0 := Lib.hid (frameReadL_0 (l := l) (q : Int) HNL.out HNB.out HN4.out hs)
                    rw [decide_eq_true (HSAME.out.2 hs)] at hse
                    clear hs
                    go_wp2_with fail
                    go_quiet (fail)
                    go_wp2
                    refine bodyPost_ret (v := .tuple #[.agg #[.int .i64 K, .slice A2 N C2], .int .i64 ((q : Int) + 20 + (N : Int)), .int .i64 0]) (by simp [results, Try.results37, go_sem, z0'', z1'']) rfl ?_
                    rw [HF.out, H0.out]
                    have hw := (Win.set (lo := w.heap.size) (hi := w.heap.size + 1) (w5.drewN nq) w.heap.size 0 (.int .i64 K) (Nat.le_refl _) (Nat.lt_succ_self _)).trans (Win.set _ w.heap.size 1 (.slice A2 N C2) (Nat.le_refl _) (Nat.lt_succ_self _))
                    have h5n := own_below HOWN.out (below_drewN (Below.refl w5.heap.size w5) nq) (Nat.le_refl _)
                    have h5o := own_win h5n hw (fun g hg => Or.inr (by have h7 := (World.ownsRow.lt h5n g hg).1; omega))
                    exact ⟨A2, N, C2, by rw [← HKK.out, ← HNN.out], ((OwnI.of h5o hDN (by omega)).lo_le (by omega)), (below_drewN BB5 nq).trans (hw.below (B := w.heap.size) (Nat.le_refl _) (below_drewN BB5 nq).size)⟩
                  · have H5 := Lib.hid (frameReadL_5 (l := l) (q : Int) HNL.out HNB.out HN4.out hs)
                    rw [decide_eq_false (fun e => hs (HSAME.out.1 e))] at hse
                    clear hs
                    go_wp2_with fail
                    go_quiet (fail)
                    go_wp2
                    refine bodyPost_ret (v := .tuple #[.agg #[.int .i64 0, .slice none 0 0], .int .i64 0, .int .i64 5]) (by simp [results, Try.results37, go_sem, z0'', z1'']) rfl ?_
                    rw [HF.out, H5.out]
                    exact ⟨none, 0, 0, rfl, OwnI.nil _ _ _ _, ((below_drewN BB5 nq).setCell (p := ⟨w.heap.size, 0, none⟩) (Nat.le_refl _) _).setCell (p := ⟨w.heap.size, 1, none⟩) (Nat.le_refl _) _⟩
              · have H4 := Lib.hid (frameReadL_4 (l := l) (q : Int) HNL.out HNB.out (by rw [HLEN.out, ← HNN.out]; omega))
                have h20i : (n : Int) - (q : Int) - 20 < (N : Int) := by omega
                go_enter Try.func37, Try.ntmps37
                go_wp2_with fail
                refine (getFix_spec ((q : Int) + 2) _ _ _ zs _ (HR.out.below hb0 (Nat.le_refl _)) g0 (by unfold In64; omega)).mono ?_
                rintro e w1 ⟨rfl, hb1⟩
                rw [G2.out]
                have BB1 := hb0.trans (hb1.mono (by simp))
                go_wp2_with fail
                refine (getFix_spec ((q : Int) + 8) _ _ _ zs _ (HR.out.below BB1 (Nat.le_refl _)) g0 (by unfold In64; omega)).mono ?_
                rintro e w2 ⟨rfl, hb2⟩
                rw [G8.out]
                have BB2 := BB1.trans (hb2.mono BB1.size)
                have hbW : Below (w.heap.size + 1) (w.alloc (.cells #[.int .i64 0, .slice none 0 0] 43)) w2 := (hb1.mono (by simp)).trans (hb2.mono (by have := hb1.size; simpa using this))
                have k0 := HC0.out _ BB2
                have k1 := HC1.out _ BB2
                have hsW := hbW.size
                have hz : w.heap.size < w2.heap.size := by simp at hsW; omega
                have hbl2 : b1 < w2.heap.size := by have := BB2.size; omega
                obtain ⟨hc, hf⟩ := bcell hbW
                have x0 : w2.cell? ⟨w.heap.size, 0, none⟩ = some (.int .i64 0) := by rw [hc _ _ (by simp)]; simp [go_sem]
                have x1 : w2.cell? ⟨w.heap.size, 1, none⟩ = some (.slice none 0 0) := by rw [hc _ _ (by simp)]; simp [go_sem]
                have y0 : w2.frozen? ⟨w.heap.size, 0, none⟩ = false := by rw [hf _ _ (by simp)]; simp [go_sem]
                have y1 : w2.frozen? ⟨w.heap.size, 1, none⟩ = false := by rw [hf _ _ (by simp)]; simp [go_sem]
                clear hc hf hbW hb1 hb2 BB1 hsW
                have hbx := (Below.refl w2.heap.size w2).alloc (Nat.le_refl _) (.cells #[.int .i64 K, .slice none 0 0] 43)
                have BBx := BB2.trans (hbx.mono BB2.size)
                go_wp2_with fail
                refine (crc_spec _ _ _ (l.take 8) _ (RD8.out _ BBx) (fun y hy => h8l y (List.mem_of_mem_take hy))).mono ?_
                rintro e w3 ⟨rfl, hb3⟩
                have BB3 := BBx.trans (hb3.mono BBx.size)
                have hz3 : w.heap.size < w3.heap.size := by have := hb3.size; simp at this; omega
                have hz23 : w2.heap.size < w3.heap.size := by have := hb3.size; simp at this; omega
                obtain ⟨hc, hf⟩ := bcell hb3
                have z0 : w3.cell? ⟨w.heap.size, 0, none⟩ = some (.int .i64 0) := by rw [hc _ _ (by simp; omega)]; simp [go_sem, hz, x0]
                have z1 : w3.cell? ⟨w.heap.size, 1, none⟩ = some (.slice none 0 0) := by rw [hc _ _ (by simp; omega)]; simp [go_sem, hz, x1]
                have u0 : w3.frozen? ⟨w.heap.size, 0, none⟩ = false := by rw [hf _ _ (by simp; omega)]; simp [go_sem, hz, y0]
                have u1 : w3.frozen? ⟨w.heap.size, 1, none⟩ = false := by rw [hf _ _ (by simp; omega)]; simp [go_sem, hz, y1]
                have f0 : w3.cell? ⟨w2.heap.size, 0, none⟩ = some (.int .i64 K) := by rw [hc _ _ (by simp)]; simp [go_sem]
                have f1 : w3.cell? ⟨w2.heap.size, 1, none⟩ = some (.slice none 0 0) := by rw [hc _ _ (by simp)]; simp [go_sem]
                have fz0 : w3.frozen? ⟨w2.heap.size, 0, none⟩ = false := by rw [hf _ _ (by simp)]; simp [go_sem]
                have fz1 : w3.frozen? ⟨w2.heap.size, 1, none⟩ = false := by rw [hf _ _ (by simp)]; simp [go_sem]
                clear hc hf hb3 BBx hbx x0 x1 y0 y1 k0 k1
                go_wp2
                refine bodyPost_ret (v := .tuple #[.agg #[.int .i64 0, .slice none 0 0], .int .i64 0, .int .i64 4]) (by simp [results, Try.results37, go_sem, z0, z1]) rfl ?_
                rw [HF.out, H4.out]
                exact ⟨none, 0, 0, rfl, OwnI.nil _ _ _ _, (BB3.setCell (p := ⟨w.heap.size, 0, none⟩) (Nat.le_refl _) (.int .i64 0)).setCell (p := ⟨w.heap.size, 1, none⟩) (Nat.le_refl _) (.slice none 0 0)⟩
            · have H3 := Lib.hid (frameReadL_3 (l := l) (q : Int) HNL.out (Or.inr (Or.inr (Or.inr (by rw [← HHH.out]; exact hcrc)))))
              have hcri : ((H : Int) != (crcN (l.take 8) : Int)) = true := by simp; omega
              clear hcrc
              go_enter Try.func37, Try.ntmps37
              go_wp2_with fail
              refine (getFix_spec ((q : Int) + 2) _ _ _ zs _ (HR.out.below hb0 (Nat.le_refl _)) g0 (by unfold In64; omega)).mono ?_
              rintro e w1 ⟨rfl, hb1⟩
              rw [G2.out]
              have BB1 := hb0.trans (hb1.mono (by simp))
              go_wp2_with fail
              refine (getFix_spec ((q : Int) + 8) _ _ _ zs _ (HR.out.below BB1 (Nat.le_refl _)) g0 (by unfold In64; omega)).mono ?_
              rintro e w2 ⟨rfl, hb2⟩
              rw [G8.out]
              have BB2 := BB1.trans (hb2.mono BB1.size)
              have hbW : Below (w.heap.size + 1) (w.alloc (.cells #[.int .i64 0, .slice none 0 0] 43)) w2 := (hb1.mono (by simp)).trans (hb2.mono (by have := hb1.size; simpa using this))
              have k0 := HC0.out _ BB2
              have k1 := HC1.out _ BB2
              have hsW := hbW.size
              have hz : w.heap.size < w2.heap.size := by simp at hsW; omega
              have hbl2 : b1 < w2.heap.size := by have := BB2.size; omega
              obtain ⟨hc, hf⟩ := bcell hbW
              have x0 : w2.cell? ⟨w.heap.size, 0, none⟩ = some (.int .i64 0) := by rw [hc _ _ (by simp)]; simp [go_sem]
              have x1 : w2.cell? ⟨w.heap.size, 1, none⟩ = some (.slice none 0 0) := by rw [hc _ _ (by simp)]; simp [go_sem]
              have y0 : w2.frozen? ⟨w.heap.size, 0, none⟩ = false := by rw [hf _ _ (by simp)]; simp [go_sem]
              have y1 : w2.frozen? ⟨w.heap.size, 1, none⟩ = false := by rw [hf _ _ (by simp)]; simp [go_sem]
              clear hc hf hbW hb1 hb2 BB1 hsW
              have hbx := (Below.refl w2.heap.size w2).alloc (Nat.le_refl _) (.cells #[.int .i64 K, .slice none 0 0] 43)
              have BBx := BB2.trans (hbx.mono BB2.size)
              go_wp2_with fail
              refine (crc_spec _ _ _ (l.take 8) _ (RD8.out _ BBx) (fun y hy => h8l y (List.mem_of_mem_take hy))).mono ?_
              rintro e w3 ⟨rfl, hb3⟩
              have BB3 := BBx.trans (hb3.mono BBx.size)
              have hz3 : w.heap.size < w3.heap.size := by have := hb3.size; simp at this; omega
              have hz23 : w2.heap.size < w3.heap.size := by have := hb3.size; simp at this; omega
              obtain ⟨hc, hf⟩ := bcell hb3
              have z0 : w3.cell? ⟨w.heap.size, 0, none⟩ = some (.int .i64 0) := by rw [hc _ _ (by simp; omega)]; simp [go_sem, hz, x0]
              have z1 : w3.cell? ⟨w.heap.size, 1, none⟩ = some (.slice none 0 0) := by rw [hc _ _ (by simp; omega)]; simp [go_sem, hz, x1]
              have u0 : w3.frozen? ⟨w.heap.size, 0, none⟩ = false := by rw [hf _ _ (by simp; omega)]; simp [go_sem, hz, y0]
              have u1 : w3.frozen? ⟨w.heap.size, 1, none⟩ = false := by rw [hf _ _ (by simp; omega)]; simp [go_sem, hz, y1]
              have f0 : w3.cell? ⟨w2.heap.size, 0, none⟩ = some (.int .i64 K) := by rw [hc _ _ (by simp)]; simp [go_sem]
              have f1 : w3.cell? ⟨w2.heap.size, 1, none⟩ = some (.slice none 0 0) := by rw [hc _ _ (by simp)]; simp [go_sem]
              have fz0 : w3.frozen? ⟨w2.heap.size, 0, none⟩ = false := by rw [hf _ _ (by simp)]; simp [go_sem]
              have fz1 : w3.frozen? ⟨w2.heap.size, 1, none⟩ = false := by rw [hf _ _ (by simp)]; simp [go_sem]
              clear hc hf hb3 BBx hbx x0 x1 y0 y1 k0 k1
              go_wp2
              refine bodyPost_ret (v := .tuple #[.agg #[.int .i64 0, .slice none 0 0], .int .i64 0, .int .i64 3]) (by simp [results, Try.results37, go_sem, z0, z1]) rfl ?_
              rw [HF.out, H3.out]
              exact ⟨none, 0, 0, rfl, OwnI.nil _ _ _ _, (BB3.setCell (p := ⟨w.heap.size, 0, none⟩) (Nat.le_refl _) (.int .i64 0)).setCell (p := ⟨w.heap.size, 1, none⟩) (Nat.le_refl _) (.slice none 0 0)⟩
          · have H3 := Lib.hid (frameReadL_3 (l := l) (q : Int) HNL.out (Or.inr (Or.inr (Or.inl (by rw [← HNN.out]; omega)))))
            have hN6i : (60000 : Int) < (N : Int) := by omega
            clear hN6
            go_enter Try.func37, Try.ntmps37
            go_wp2_with fail
            refine (getFix_spec ((q : Int) + 2) _ _ _ zs _ (HR.out.below hb0 (Nat.le_refl _)) g0 (by unfold In64; omega)).mono ?_
            rintro e w1 ⟨rfl, hb1⟩
            rw [G2.out]
            have BB1 := hb0.trans (hb1.mono (by simp))
            go_wp2_with fail
            refine (getFix_spec ((q : Int) + 8) _ _ _ zs _ (HR.out.below BB1 (Nat.le_refl _)) g0 (by unfold In64; omega)).mono ?_
            rintro e w2 ⟨rfl, hb2⟩
            rw [G8.out]
            have BB2 := BB1.trans (hb2.mono BB1.size)
            have hbW : Below (w.heap.size + 1) (w.alloc (.cells #[.int .i64 0, .slice none 0 0] 43)) w2 := (hb1.mono (by simp)).trans (hb2.mono (by have := hb1.size; simpa using this))
            have k0 := HC0.out _ BB2
            have k1 := HC1.out _ BB2
            have hsW := hbW.size
            have hz : w.heap.size < w2.heap.size := by simp at hsW; omega
            have hbl2 : b1 < w2.heap.size := by have := BB2.size; omega
            obtain ⟨hc, hf⟩ := bcell hbW
            have x0 : w2.cell? ⟨w.heap.size, 0, none⟩ = some (.int .i64 0) := by rw [hc _ _ (by simp)]; simp [go_sem]
            have x1 : w2.cell? ⟨w.heap.size, 1, none⟩ = some (.slice none 0 0) := by rw [hc _ _ (by simp)]; simp [go_sem]
            have y0 : w2.frozen? ⟨w.heap.size, 0, none⟩ = false := by rw [hf _ _ (by simp)]; simp [go_sem]
            have y1 : w2.frozen? ⟨w.heap.size, 1, none⟩ = false := by rw [hf _ _ (by simp)]; simp [go_sem]
            clear hc hf hbW hb1 hb2 BB1 hsW
            go_wp2
            refine bodyPost_ret (v := .tuple #[.agg #[.int .i64 0, .slice none 0 0], .int .i64 0, .int .i64 3]) (by simp [results, Try.results37, go_sem, hz, x0, x1]) rfl ?_
            rw [HF.out, H3.out]
            exact ⟨none, 0, 0, rfl, OwnI.nil _ _ _ _, ((BB2.setCell (p := ⟨w.heap.size, 0, none⟩) (Nat.le_refl _) (.int .i64 0)).setCell (p := ⟨w.heap.size, 1, none⟩) (Nat.le_refl _) (.slice none 0 0)).alloc (by simp only [size_set]; exact BB2.size) _⟩
      · have H3 := Lib.hid (frameReadL_3 (l := l) (q : Int) HNL.out (Or.inl (by rw [← HA.out]; exact hA71)))
        have hA72 : (A != 71) = true := by simp [hA71]
        clear hA71
        go_enter Try.func37, Try.ntmps37
        go_wp2_with fail
        refine (getFix_spec ((q : Int) + 2) _ _ _ zs _ (HR.out.below hb0 (Nat.le_refl _)) g0 (by unfold In64; omega)).mono ?_
        rintro e w1 ⟨rfl, hb1⟩
        rw [G2.out]
        have BB1 := hb0.trans (hb1.mono (by simp))
        go_wp2_with fail
        refine (getFix_spec ((q : Int) + 8) _ _ _ zs _ (HR.out.below BB1 (Nat.le_refl _)) g0 (by unfold In64; omega)).mono ?_
        rintro e w2 ⟨rfl, hb2⟩
        rw [G8.out]
        have BB2 := BB1.trans (hb2.mono BB1.size)
        have hbW : Below (w.heap.size + 1) (w.alloc (.cells #[.int .i64 0, .slice none 0 0] 43)) w2 := (hb1.mono (by simp)).trans (hb2.mono (by have := hb1.size; simpa using this))
        have k0 := HC0.out _ BB2
        have k1 := HC1.out _ BB2
        have hsW := hbW.size
        have hz : w.heap.size < w2.heap.size := by simp at hsW; omega
        have hbl2 : b1 < w2.heap.size := by have := BB2.size; omega
        obtain ⟨hc, hf⟩ := bcell hbW
        have x0 : w2.cell? ⟨w.heap.size, 0, none⟩ = some (.int .i64 0) := by rw [hc _ _ (by simp)]; simp [go_sem]
        have x1 : w2.cell? ⟨w.heap.size, 1, none⟩ = some (.slice none 0 0) := by rw [hc _ _ (by simp)]; simp [go_sem]
        have y0 : w2.frozen? ⟨w.heap.size, 0, none⟩ = false := by rw [hf _ _ (by simp)]; simp [go_sem]
        have y1 : w2.frozen? ⟨w.heap.size, 1, none⟩ = false := by rw [hf _ _ (by simp)]; simp [go_sem]
        clear hc hf hbW hb1 hb2 BB1 hsW
        go_wp2
        refine bodyPost_ret (v := .tuple #[.agg #[.int .i64 0, .slice none 0 0], .int .i64 0, .int .i64 3]) (by simp [results, Try.results37, go_sem, hz, x0, x1]) rfl ?_
        rw [HF.out, H3.out]
        exact ⟨none, 0, 0, rfl, OwnI.nil _ _ _ _, ((BB2.setCell (p := ⟨w.heap.size, 0, none⟩) (Nat.le_refl _) (.int .i64 0)).setCell (p := ⟨w.heap.size, 1, none⟩) (Nat.le_refl _) (.slice none 0 0)).alloc (by simp only [size_set]; exact BB2.size) _⟩
  · have HF := Lib.hid (frameReadF_1 (zs := zs) (p := p) (by rw [hL.out]; omega))
    by_cases h1 : 0 ≤ p
    · have h2 : (n : Int) < p := by omega
      clear h0
      go_enter Try.func37, Try.ntmps37
      go_wp2
      refine bodyPost_ret (v := .tuple #[.agg #[.int .i64 0, .slice none 0 0], .int .i64 0, .int .i64 1]) (by simp [results, Try.results37, go_sem]) rfl ?_
      rw [HF.out]
      exact ⟨none, 0, 0, rfl, OwnI.nil _ _ _ _, hb0⟩
    · clear h0
      go_enter Try.func37, Try.ntmps37
      go_wp2
      refine bodyPost_ret (v := .tuple #[.agg #[.int .i64 0, .slice none 0 0], .int .i64 0, .int .i64 1]) (by simp [results, Try.results37, go_sem]) rfl ?_
      rw [HF.out]
      exact ⟨none, 0, 0, rfl, OwnI.nil _ _ _ _, hb0⟩
end Go.Proofs.Ytkgalkaafocnjaa

/- FrameRead of the program: what it computes. -/
import Derived.Test.YtkgalkaafocnjaaFrPlain
import Derived.Test.YtkgalkaafocnjaaStr
import Derived.Test.YtkgalkaafocnjaaKeep
import Derived.Test.YtkgalkaafocnjaaStepM
namespace Go.Proofs.Ytkgalkaafocnjaa
open Go.RowKit
set_option maxRecDepth 100000 in
set_option maxHeartbeats 16000000 in
theorem frameRead_impl (a : Option Addr) (n cap : Nat) (zs : List Int) (p : Int) (w : World) (h : Rd (encI .u8) 1 w a n cap zs) (g0 : ∀ y ∈ zs, In8 y) (g1 : In64 p) (hn : n ≤ 1099511627775) :
    Calls Try.prog 38 #[.slice a n cap, .int .i64 p] w fun e w' => RetFr (frameReadF zs p) w e w' := by
  have hL := Lib.hid h.len
  have hm := h.max
  have hle := h.le
  unfold maxLen at hm
  unfold In64 at g1
  have hb0 := (Below.refl w.heap.size w).alloc (Nat.le_refl _) (.cells #[.int .i64 0, .slice none 0 0] 43)
  by_cases h0 : 0 ≤ p ∧ p ≤ (n : Int)
  · obtain ⟨h1, h2⟩ := h0
    obtain ⟨q, rfl⟩ := Int.eq_ofNat_of_zero_le h1
    have HF := Lib.hid (frameReadF_in zs (q := q) (by rw [hL.out]; omega))
    obtain ⟨l, hl⟩ : ∃ l, l = zs.drop q := ⟨_, rfl⟩
    rw [← hl] at HF
    have HLL := Lib.hid hl
    have hll : l.length = n - q := by rw [hl, List.length_drop, hL.out]
    have HLEN := Lib.hid hll
    have h8l : ∀ y ∈ l, In8 y := by rw [hl]; exact fun y hy => g0 y (List.mem_of_mem_drop hy)
    clear hl hll
    by_cases h14 : n - q < 14
    · have H2 := Lib.hid (frameReadL_2 (l := l) (q : Int) (by rw [HLEN.out]; exact h14))
      by_cases hqc : cap = q
      · subst hqc
        have hnq : n = cap := by omega
        subst hnq
        go_enter Try.func38, Try.ntmps38
        go_wp2
        refine bodyPost_ret (v := .tuple #[.agg #[.int .i64 0, .slice none 0 0], .int .i64 0, .int .i64 2]) (by simp [results, Try.results38, go_sem]) rfl ?_
        rw [HF.out, H2.out]
        exact ⟨none, 0, 0, rfl, OwnI.nil _ _ _ _, hb0⟩
      · have hqlt : q < cap := by omega
        have h14i : (n : Int) - (q : Int) < 14 := by omega
        clear hqc
        go_enter Try.func38, Try.ntmps38
        go_wp2
        refine bodyPost_ret (v := .tuple #[.agg #[.int .i64 0, .slice none 0 0], .int .i64 0, .int .i64 2]) (by simp [results, Try.results38, go_sem]) rfl ?_
        rw [HF.out, H2.out]
        exact ⟨none, 0, 0, rfl, OwnI.nil _ _ _ _, hb0⟩
    · have hql : q < cap := by omega
      obtain ⟨b1, off1, rfl, hbl1, hc1⟩ := h.ints (by omega)
      have RDL : Hid (Rd (encI .u8) 1 w (some ⟨b1, off1 + q, none⟩) (n - q) (cap - q) l) := by
        have := h.window q n (by omega) (Nat.le_refl _)
        rw [show (zs.drop q).take (n - q) = l from by rw [HLL.out]; exact List.take_of_length_le (by rw [List.length_drop, hL.out]; exact Nat.le_refl _)] at this
        exact this
      have hN48 : frN l < 281474976710656 := fixN_win l h8l 2 6 (Nat.le_refl _)
      have hH48 : frH l < 281474976710656 := fixN_win l h8l 8 6 (Nat.le_refl _)
      have G2 : Hid (getFixF l 2 = ((frN l : Int), true)) := getFixF_yes l (p := 2) (by rw [HLEN.out]; omega)
      have G8 : Hid (getFixF l 8 = ((frH l : Int), true)) := getFixF_yes l (p := 8) (by rw [HLEN.out]; omega)
      obtain ⟨A, hA⟩ : ∃ A, A = l.getD 0 0 := ⟨_, rfl⟩
      obtain ⟨K, hK⟩ : ∃ K, K = l.getD 1 0 := ⟨_, rfl⟩
      obtain ⟨a0, a1⟩ : 0 ≤ A ∧ A ≤ 255 := by rw [hA]; simpa [List.getD] using in8_getD h8l 0
      obtain ⟨b0, b255⟩ : 0 ≤ K ∧ K ≤ 255 := by rw [hK]; simpa [List.getD] using in8_getD h8l 1
      have HC0 : Hid (∀ w', Below w.heap.size w w' → w'.cell? ⟨b1, off1 + q, none⟩ = some (.int .u8 A)) := fun w' hb => by
        obtain ⟨b', o', hx, _, hcc⟩ := (RDL.out.below hb (Nat.le_refl _)).ints (by omega)
        cases hx
        rw [hA]; simpa using hcc 0 (by omega)
      have HC1 : Hid (∀ w', Below w.heap.size w w' → w'.cell? ⟨b1, off1 + q + 1, none⟩ = some (.int .u8 K)) := fun w' hb => by
        obtain ⟨b', o', hx, _, hcc⟩ := (RDL.out.below hb (Nat.le_refl _)).ints (by omega)
        cases hx
        rw [hK]; exact hcc 1 (by omega)
      have HA := Lib.hid hA
      have HKK := Lib.hid hK
      clear hA hK hc1
      obtain ⟨N, hN⟩ : ∃ N, N = frN l := ⟨_, rfl⟩
      obtain ⟨H, hH⟩ : ∃ H, H = frH l := ⟨_, rfl⟩
      rw [← hN] at G2 hN48
      rw [← hH] at G8 hH48
      have HNN := Lib.hid hN
      have HHH := Lib.hid hH
      clear hN hH
      have hnq0 : (0 : Int) < (n : Int) - (q : Int) := by omega
      have hnq1 : (1 : Int) < (n : Int) - (q : Int) := by omega
      have hnq8 : (14 : Int) ≤ (n : Int) - (q : Int) := by omega
      have hnl14 : ¬ l.length < 14 := by rw [HLEN.out]; omega
      have HNL := Lib.hid hnl14
      clear hnl14
      by_cases hA71 : A = 71
      · subst hA71
        cases hkb : kindB K with
        | false =>
          have H3 := Lib.hid (frameReadL_3 (l := l) (q : Int) HNL.out (Or.inr (Or.inl (by rw [← HKK.out]; exact hkb))))
          have HKB := Lib.hid hkb
          clear hkb
          go_enter Try.func38, Try.ntmps38
          go_wp2_with fail
          refine (getFix_impl 2 _ _ _ l _ (RDL.out.below hb0 (Nat.le_refl _)) h8l (by unfold In64; omega)).mono ?_
          rintro e w1 ⟨rfl, hb1⟩
          rw [G2.out]
          have BB1 := hb0.trans (hb1.mono (by simp))
          go_wp2_with fail
          refine (getFix_impl 8 _ _ _ l _ (RDL.out.below BB1 (Nat.le_refl _)) h8l (by unfold In64; omega)).mono ?_
          rintro e w2 ⟨rfl, hb2⟩
          rw [G8.out]
          have BB2 := BB1.trans (hb2.mono BB1.size)
          have hbW : Below (w.heap.size + 1) (w.alloc (.cells #[.int .i64 0, .slice none 0 0] 43)) w2 := (hb1.mono (by simp)).trans (hb2.mono (by have := hb1.size; simpa using this))
          have k0 := HC0.out _ BB2
          have k1 := HC1.out _ BB2
          go_wp2_with fail
          refine (isFrameKind_any _ _).mono ?_
          rintro e w' ⟨rfl, rfl⟩
          rw [HKB.out]
          have hsW := hbW.size
          have hz : w.heap.size < w2.heap.size := by simp at hsW; omega
          obtain ⟨hc, hf⟩ := bcell hbW
          clear hbW hb1 hb2 BB1
          go_wp2
          refine bodyPost_ret (v := .tuple #[.agg #[.int .i64 0, .slice none 0 0], .int .i64 0, .int .i64 3]) (by simp [results, Try.results38, go_sem, hc]) rfl ?_
          rw [HF.out, H3.out]
          exact ⟨none, 0, 0, rfl, OwnI.nil _ _ _ _, (BB2.setCell (p := ⟨w.heap.size, 0, none⟩) (Nat.le_refl _) _).setCell (p := ⟨w.heap.size, 1, none⟩) (Nat.le_refl _) _⟩
        | true =>
          have HKB := Lib.hid hkb
          clear hkb
          by_cases hN6 : N ≤ 60000
          · have hN6i : (N : Int) ≤ 60000 := by omega
            by_cases hcrc : H = crcN (l.take 8)
            · have hcri : ((H : Int) != (crcN (l.take 8) : Int)) = false := by simp [hcrc]
              have HNB : Hid (¬ frBad l) := fun hh => by
                rcases hh with hh | hh | hh | hh
                · rw [← HA.out] at hh; exact hh rfl
                · rw [← HKK.out, HKB.out] at hh; cases hh
                · rw [← HNN.out] at hh; omega
                · rw [← HHH.out] at hh; exact hh hcrc
              have HCRC := Lib.hid hcrc
              clear hcrc
              by_cases h20 : 20 + N ≤ n - q
              · have hS48 : frS l < 281474976710656 := fixN_win l h8l 14 6 (Nat.le_refl _)
                have G14 : Hid (getFixF l 14 = ((frS l : Int), true)) := getFixF_yes l (p := 14) (by rw [HLEN.out]; omega)
                obtain ⟨S, hS⟩ : ∃ S, S = frS l := ⟨_, rfl⟩
                rw [← hS] at hS48 G14
                have HSS := Lib.hid hS
                clear hS
                have HN4 : Hid (¬ l.length < 20 + frN l) := by show ¬ _; rw [HLEN.out, ← HNN.out]; omega
                have h20i : 20 + (N : Int) ≤ (n : Int) - (q : Int) := by omega
                have hD8 : ∀ y ∈ frD l, In8 y := in8_win h8l 20 (frN l)
                by_cases hc20 : cap - q = 20
                · obtain rfl : N = 0 := by omega
                  obtain rfl : cap = q + 20 := by omega
                  obtain rfl : n = q + 20 := by omega
                  have hD0 : frD l = [] := by unfold frD; rw [← HNN.out]; rfl
                  have RDD : Hid (∀ w', Below w.heap.size w w' → Rd (encI .u8) 1 w' (some ⟨b1, off1 + q, none⟩) 0 0 (frD l)) := fun w' hb => by
                    rw [hD0]
                    exact ⟨Nat.le_refl _, by unfold maxLen; omega, rfl, (fun hh => by cases hh), fun hn => absurd hn (Nat.lt_irrefl _)⟩
                  clear hD0
                  have RDL2 : Hid (Rd (encI .u8) 1 w (some ⟨b1, off1 + q, none⟩) 20 20 l) := by
                    have e := RDL.out
                    rw [Nat.add_sub_cancel_left] at e
                    exact e
                  clear RDL
                  have RDL := RDL2
                  go_enter Try.func38, Try.ntmps38
                  go_wp2_with fail
                  refine (getFix_impl 2 _ _ _ l _ (RDL.out.below hb0 (Nat.le_refl _)) h8l (by unfold In64; omega)).mono ?_
                  rintro e w1 ⟨rfl, hb1⟩
                  rw [G2.out]
                  have BB1 := hb0.trans (hb1.mono (by simp))
                  go_wp2_with fail
                  refine (getFix_impl 8 _ _ _ l _ (RDL.out.below BB1 (Nat.le_refl _)) h8l (by unfold In64; omega)).mono ?_
                  rintro e w2 ⟨rfl, hb2⟩
                  rw [G8.out]
                  have BB2 := BB1.trans (hb2.mono BB1.size)
                  have hbW : Below (w.heap.size + 1) (w.alloc (.cells #[.int .i64 0, .slice none 0 0] 43)) w2 := (hb1.mono (by simp)).trans (hb2.mono (by have := hb1.size; simpa using this))
                  have k0 := HC0.out _ BB2
                  have k1 := HC1.out _ BB2
                  go_wp2_with fail
                  refine (isFrameKind_any _ _).mono ?_
                  rintro e w' ⟨rfl, rfl⟩
                  rw [HKB.out]
                  go_wp2_with fail
                  refine (crc_impl _ _ _ (l.take 8) _ ((RDL.out.below BB2 (Nat.le_refl _)).pre 8 (by omega)) (fun y hy => h8l y (List.mem_of_mem_take hy))).mono ?_
                  rintro e w3 ⟨rfl, hb3⟩
                  have BB3 := BB2.trans (hb3.mono BB2.size)
                  have hbW3 := hbW.trans (hb3.mono (by have := hbW.size; simp at this; omega))
                  have hsW := hbW3.size
                  have hz : w.heap.size < w3.heap.size := by simp at hsW; omega
                  have k1' := HC1.out _ BB3
                  go_wp2_with fail
                  refine (getFix_impl 14 _ _ _ l _ (RDL.out.below BB3 (Nat.le_refl _)) h8l (by unfold In64; omega)).mono ?_
                  rintro e w4 ⟨rfl, hb4⟩
                  rw [G14.out]
                  have BB4 := BB3.trans (hb4.mono BB3.size)
                  have hbW4 := hbW3.trans (hb4.mono (by have := hbW3.size; simp at this; omega))
                  go_wp2_with fail
                  refine (crc_impl _ _ _ (frD l) _ (RDD.out _ BB4) hD8).mono ?_
                  rintro e w5 ⟨rfl, hb5⟩
                  have BB5 := BB4.trans (hb5.mono BB4.size)
                  have hbW5 := hbW4.trans (hb5.mono (by have := hbW4.size; simp at this; omega))
                  have hsW5 := hbW5.size
                  have hz5 : w.heap.size < w5.heap.size := by simp at hsW5; omega
                  by_cases hcs : S = crcN (frD l)
                  · have hcsi : ((S : Int) != (crcN (frD l) : Int)) = false := by simp [hcs]
                    have H0 := Lib.hid (frameReadL_0 (l := l) (q : Int) HNL.out HNB.out HN4.out (by rw [← HSS.out]; exact hcs))
                    clear hcs
                    have k15 := HC1.out _ BB5
                    obtain ⟨hc, hf⟩ := bcell hbW5
                    have x0 : w5.cell? ⟨w.heap.size, 0, none⟩ = some (.int .i64 0) := by rw [hc _ _ (by simp)]; simp [go_sem]
                    have x1 : w5.cell? ⟨w.heap.size, 1, none⟩ = some (.slice none 0 0) := by rw [hc _ _ (by simp)]; simp [go_sem]
                    have y0 : w5.frozen? ⟨w.heap.size, 0, none⟩ = false := by rw [hf _ _ (by simp)]; simp [go_sem]
                    have y1 : w5.frozen? ⟨w.heap.size, 1, none⟩ = false := by rw [hf _ _ (by simp)]; simp [go_sem]
                    have S5 := Lib.hid (⟨k15, cellV_of x0, cellV_of x1, y0, y1, BB5⟩ : w5.cell? ⟨b1, off1 + q + 1, none⟩ = some (.int .u8 K) ∧ w5.cell? ⟨w.heap.size, 0, none⟩ = some (cellV w5 ⟨w.heap.size, 0, none⟩) ∧ w5.cell? ⟨w.heap.size, 1, none⟩ = some (cellV w5 ⟨w.heap.size, 1, none⟩) ∧ w5.frozen? ⟨w.heap.size, 0, none⟩ = false ∧ w5.frozen? ⟨w.heap.size, 1, none⟩ = false ∧ Below w.heap.size w w5)
                    have hb1ne : b1 ≠ w.heap.size := by omega
                    have hNb : 0 ≤ 1099511627776 := by omega
                    have s3 : IntKind.i64.wrap K = K := IntWalk.i64_in _ (by omega)
                    have s1 : IntKind.i64.wrap ((q : Int) + 20) = (q : Int) + 20 := IntWalk.i64_in _ (by omega)
                    have s2 : IntKind.i64.wrap ((q : Int) + 20 + ((0 : Nat) : Int)) = (q : Int) + 20 + ((0 : Nat) : Int) := IntWalk.i64_in _ (by omega)
                    clear hc hf hbW hbW3 hbW4 hbW5 hb1 hb2 hb3 hb4 hb5 BB1 k0 k1 k1' x0 x1 y0 y1
                    go_wp2_with fail
                    go_region_held3 (fun w' => w'.cell? ⟨b1, off1 + q + 1, none⟩ = some (.int .u8 K) ∧ w'.cell? ⟨w.heap.size, 0, none⟩ = some (cellV w' ⟨w.heap.size, 0, none⟩) ∧ w'.cell? ⟨w.heap.size, 1, none⟩ = some (cellV w' ⟨w.heap.size, 1, none⟩) ∧ w'.frozen? ⟨w.heap.size, 0, none⟩ = false ∧ w'.frozen? ⟨w.heap.size, 1, none⟩ = false ∧ Below w.heap.size w w') (first | exact keepVd (by assumption) | exact keepVd S5.out | exact keepV (by assumption) (by assumption) | exact keepVs hb1ne (Nat.le_refl _) (by assumption)) (first | (go_at_call 62; refine (copyBytes_any _ _ _ (frD l) _ (RDD.out _ (tailV (w0 := w) (a1 := ⟨b1, off1 + q + 1, none⟩) (a2 := ⟨w.heap.size, 0, none⟩) (a3 := ⟨w.heap.size, 1, none⟩) (v1 := .int .u8 K) (by assumption))) hNb).mono ?_; rintro e w6 ⟨ga, gc, rfl, hg, hb6⟩))
                    have S6 := keepV hb6 (keepVd S5.out)
                    obtain ⟨_, e0, e1, e2, e3, _⟩ := S6
                    have hbW := tailV (w0 := w) (a1 := ⟨b1, off1 + q + 1, none⟩) (a2 := ⟨w.heap.size, 0, none⟩) (a3 := ⟨w.heap.size, 1, none⟩) (v1 := .int .u8 K) (by assumption)
                    have hw := (Win.set (lo := w.heap.size) (hi := w.heap.size + 1) w6 w.heap.size 0 (.int .i64 K) (Nat.le_refl _) (Nat.lt_succ_self _)).trans (Win.set _ w.heap.size 1 (.slice ga 0 gc) (Nat.le_refl _) (Nat.lt_succ_self _))
                    have HOWN := Lib.hid (own_win hg hw (fun g hgg => Or.inr (by have h7 := (World.ownsRow.lt hg g hgg).1; simp at h7; omega)))
                    have HBW := Lib.hid hbW
                    have HDLN : Hid ((frD l).length = 0) := Lib.hid (RDD.out w (Below.refl _ _)).len
                    have hsmall : 0 ≤ 4611686018427387904 := by omega
                    clear hw hbW hg hb6
                    go_wp2
                    refine bodyPost_ret (v := .tuple #[.agg #[.int .i64 K, .slice ga 0 gc], .int .i64 ((q : Int) + 20), .int .i64 0]) (by simp [results, Try.results38, go_sem, e0, e1]) rfl ?_
                    rw [HF.out, H0.out]
                    exact ⟨ga, 0, gc, by rw [← HKK.out, ← HNN.out] <;> first | rfl | simp, ((OwnI.of HOWN.out HDLN.out hsmall).lo_le (by simp; omega)), HBW.out⟩
                  · have hcsi : ((S : Int) != (crcN (frD l) : Int)) = true := by simp; omega
                    have H5 := Lib.hid (frameReadL_5 (l := l) (q : Int) HNL.out HNB.out HN4.out (by rw [← HSS.out]; exact hcs))
                    clear hcs
                    obtain ⟨hc, hf⟩ := bcell hbW5
                    have hz := hz5
                    clear hbW hbW3 hbW4 hbW5 hb1 hb2 hb3 hb4 hb5 BB1 k0 k1 k1'
                    go_wp2
                    refine bodyPost_ret (v := .tuple #[.agg #[.int .i64 0, .slice none 0 0], .int .i64 0, .int .i64 5]) (by simp [results, Try.results38, go_sem, hc]) rfl ?_
                    rw [HF.out, H5.out]
                    exact ⟨none, 0, 0, rfl, OwnI.nil _ _ _ _, (BB5.setCell (p := ⟨w.heap.size, 0, none⟩) (Nat.le_refl _) _).setCell (p := ⟨w.heap.size, 1, none⟩) (Nat.le_refl _) _⟩
                · have hlt20 : 20 < cap - q := by omega
                  clear hc20
                  have RDD : Hid (∀ w', Below w.heap.size w w' → Rd (encI .u8) 1 w' (some ⟨b1, off1 + q + 20, none⟩) N (cap - q - 20) (frD l)) := fun w' hb => by
                    have := (RDL.out.below hb (Nat.le_refl _)).window 20 (20 + N) (by omega) (by omega)
                    rw [show (l.drop 20).take (20 + N - 20) = frD l from by unfold frD; rw [← HNN.out, Nat.add_sub_cancel_left], Nat.add_sub_cancel_left] at this
                    exact this
                  go_enter Try.func38, Try.ntmps38
                  go_wp2_with fail
                  refine (getFix_impl 2 _ _ _ l _ (RDL.out.below hb0 (Nat.le_refl _)) h8l (by unfold In64; omega)).mono ?_
                  rintro e w1 ⟨rfl, hb1⟩
                  rw [G2.out]
                  have BB1 := hb0.trans (hb1.mono (by simp))
                  go_wp2_with fail
                  refine (getFix_impl 8 _ _ _ l _ (RDL.out.below BB1 (Nat.le_refl _)) h8l (by unfold In64; omega)).mono ?_
                  rintro e w2 ⟨rfl, hb2⟩
                  rw [G8.out]
                  have BB2 := BB1.trans (hb2.mono BB1.size)
                  have hbW : Below (w.heap.size + 1) (w.alloc (.cells #[.int .i64 0, .slice none 0 0] 43)) w2 := (hb1.mono (by simp)).trans (hb2.mono (by have := hb1.size; simpa using this))
                  have k0 := HC0.out _ BB2
                  have k1 := HC1.out _ BB2
                  go_wp2_with fail
                  refine (isFrameKind_any _ _).mono ?_
                  rintro e w' ⟨rfl, rfl⟩
                  rw [HKB.out]
                  go_wp2_with fail
                  refine (crc_impl _ _ _ (l.take 8) _ ((RDL.out.below BB2 (Nat.le_refl _)).pre 8 (by omega)) (fun y hy => h8l y (List.mem_of_mem_take hy))).mono ?_
                  rintro e w3 ⟨rfl, hb3⟩
                  have BB3 := BB2.trans (hb3.mono BB2.size)
                  have hbW3 := hbW.trans (hb3.mono (by have := hbW.size; simp at this; omega))
                  have hsW := hbW3.size
                  have hz : w.heap.size < w3.heap.size := by simp at hsW; omega
                  have k1' := HC1.out _ BB3
                  go_wp2_with fail
                  refine (getFix_impl 14 _ _ _ l _ (RDL.out.below BB3 (Nat.le_refl _)) h8l (by unfold In64; omega)).mono ?_
                  rintro e w4 ⟨rfl, hb4⟩
                  rw [G14.out]
                  have BB4 := BB3.trans (hb4.mono BB3.size)
                  have hbW4 := hbW3.trans (hb4.mono (by have := hbW3.size; simp at this; omega))
                  go_wp2_with fail
                  refine (crc_impl _ _ _ (frD l) _ (RDD.out _ BB4) hD8).mono ?_
                  rintro e w5 ⟨rfl, hb5⟩
                  have BB5 := BB4.trans (hb5.mono BB4.size)
                  have hbW5 := hbW4.trans (hb5.mono (by have := hbW4.size; simp at this; omega))
                  have hsW5 := hbW5.size
                  have hz5 : w.heap.size < w5.heap.size := by simp at hsW5; omega
                  by_cases hcs : S = crcN (frD l)
                  · have hcsi : ((S : Int) != (crcN (frD l) : Int)) = false := by simp [hcs]
                    have H0 := Lib.hid (frameReadL_0 (l := l) (q : Int) HNL.out HNB.out HN4.out (by rw [← HSS.out]; exact hcs))
                    clear hcs
                    have k15 := HC1.out _ BB5
                    obtain ⟨hc, hf⟩ := bcell hbW5
                    have x0 : w5.cell? ⟨w.heap.size, 0, none⟩ = some (.int .i64 0) := by rw [hc _ _ (by simp)]; simp [go_sem]
                    have x1 : w5.cell? ⟨w.heap.size, 1, none⟩ = some (.slice none 0 0) := by rw [hc _ _ (by simp)]; simp [go_sem]
                    have y0 : w5.frozen? ⟨w.heap.size, 0, none⟩ = false := by rw [hf _ _ (by simp)]; simp [go_sem]
                    have y1 : w5.frozen? ⟨w.heap.size, 1, none⟩ = false := by rw [hf _ _ (by simp)]; simp [go_sem]
                    have S5 := Lib.hid (⟨k15, cellV_of x0, cellV_of x1, y0, y1, BB5⟩ : w5.cell? ⟨b1, off1 + q + 1, none⟩ = some (.int .u8 K) ∧ w5.cell? ⟨w.heap.size, 0, none⟩ = some (cellV w5 ⟨w.heap.size, 0, none⟩) ∧ w5.cell? ⟨w.heap.size, 1, none⟩ = some (cellV w5 ⟨w.heap.size, 1, none⟩) ∧ w5.frozen? ⟨w.heap.size, 0, none⟩ = false ∧ w5.frozen? ⟨w.heap.size, 1, none⟩ = false ∧ Below w.heap.size w w5)
                    have hb1ne : b1 ≠ w.heap.size := by omega
                    have hNb : N ≤ 1099511627776 := by omega
                    have hn1 : 1 < n - q := by omega
                    have hn1d : decide (1 < n - q) = true := by simpa using hn1
                    have hn1i : (1 : Int) < ((n - q : Nat) : Int) := by omega
                    have s3 : IntKind.i64.wrap K = K := IntWalk.i64_in _ (by omega)
                    have s1 : IntKind.i64.wrap ((q : Int) + 20) = (q : Int) + 20 := IntWalk.i64_in _ (by omega)
                    have s2 : IntKind.i64.wrap ((q : Int) + 20 + (N : Int)) = (q : Int) + 20 + (N : Int) := IntWalk.i64_in _ (by omega)
                    clear hc hf hbW hbW3 hbW4 hbW5 hb1 hb2 hb3 hb4 hb5 BB1 k0 k1 k1' x0 x1 y0 y1
                    go_wp2_with fail
                    go_region_held3 (fun w' => w'.cell? ⟨b1, off1 + q + 1, none⟩ = some (.int .u8 K) ∧ w'.cell? ⟨w.heap.size, 0, none⟩ = some (cellV w' ⟨w.heap.size, 0, none⟩) ∧ w'.cell? ⟨w.heap.size, 1, none⟩ = some (cellV w' ⟨w.heap.size, 1, none⟩) ∧ w'.frozen? ⟨w.heap.size, 0, none⟩ = false ∧ w'.frozen? ⟨w.heap.size, 1, none⟩ = false ∧ Below w.heap.size w w') (first | exact keepVd (by assumption) | exact keepVd S5.out | exact keepV (by assumption) (by assumption) | exact keepVs hb1ne (Nat.le_refl _) (by assumption)) (first | (go_at_call 62; refine (copyBytes_any _ _ _ (frD l) _ (RDD.out _ (tailV (w0 := w) (a1 := ⟨b1, off1 + q + 1, none⟩) (a2 := ⟨w.heap.size, 0, none⟩) (a3 := ⟨w.heap.size, 1, none⟩) (v1 := .int .u8 K) (by assumption))) hNb).mono ?_; rintro e w6 ⟨ga, gc, rfl, hg, hb6⟩))
                    have S6 := keepV hb6 (keepVd S5.out)
                    obtain ⟨_, e0, e1, e2, e3, _⟩ := S6
                    have hbW := tailV (w0 := w) (a1 := ⟨b1, off1 + q + 1, none⟩) (a2 := ⟨w.heap.size, 0, none⟩) (a3 := ⟨w.heap.size, 1, none⟩) (v1 := .int .u8 K) (by assumption)
                    have hw := (Win.set (lo := w.heap.size) (hi := w.heap.size + 1) w6 w.heap.size 0 (.int .i64 K) (Nat.le_refl _) (Nat.lt_succ_self _)).trans (Win.set _ w.heap.size 1 (.slice ga N gc) (Nat.le_refl _) (Nat.lt_succ_self _))
                    have HOWN := Lib.hid (own_win hg hw (fun g hgg => Or.inr (by have h7 := (World.ownsRow.lt hg g hgg).1; simp at h7; omega)))
                    have HBW := Lib.hid hbW
                    have HDLN : Hid ((frD l).length = N) := Lib.hid (RDD.out w (Below.refl _ _)).len
                    have hsmall : N ≤ 4611686018427387904 := by omega
                    clear hw hbW hg hb6
                    go_wp2
                    refine bodyPost_ret (v := .tuple #[.agg #[.int .i64 K, .slice ga N gc], .int .i64 ((q : Int) + 20 + (N : Int)), .int .i64 0]) (by simp [results, Try.results38, go_sem, e0, e1]) rfl ?_
                    rw [HF.out, H0.out]
                    exact ⟨ga, N, gc, by rw [← HKK.out, ← HNN.out] <;> first | rfl | simp, ((OwnI.of HOWN.out HDLN.out hsmall).lo_le (by simp; omega)), HBW.out⟩
                  · have hcsi : ((S : Int) != (crcN (frD l) : Int)) = true := by simp; omega
                    have H5 := Lib.hid (frameReadL_5 (l := l) (q : Int) HNL.out HNB.out HN4.out (by rw [← HSS.out]; exact hcs))
                    clear hcs
                    obtain ⟨hc, hf⟩ := bcell hbW5
                    have hz := hz5
                    clear hbW hbW3 hbW4 hbW5 hb1 hb2 hb3 hb4 hb5 BB1 k0 k1 k1'
                    go_wp2
                    refine bodyPost_ret (v := .tuple #[.agg #[.int .i64 0, .slice none 0 0], .int .i64 0, .int .i64 5]) (by simp [results, Try.results38, go_sem, hc]) rfl ?_
                    rw [HF.out, H5.out]
                    exact ⟨none, 0, 0, rfl, OwnI.nil _ _ _ _, (BB5.setCell (p := ⟨w.heap.size, 0, none⟩) (Nat.le_refl _) _).setCell (p := ⟨w.heap.size, 1, none⟩) (Nat.le_refl _) _⟩
              · have H4 := Lib.hid (frameReadL_4 (l := l) (q : Int) HNL.out HNB.out (by rw [HLEN.out, ← HNN.out]; omega))
                have h20i : (n : Int) - (q : Int) < 20 + (N : Int) := by omega
                have h20n : n - q < 20 + N := by omega
                go_enter Try.func38, Try.ntmps38
                go_wp2_with fail
                refine (getFix_impl 2 _ _ _ l _ (RDL.out.below hb0 (Nat.le_refl _)) h8l (by unfold In64; omega)).mono ?_
                rintro e w1 ⟨rfl, hb1⟩
                rw [G2.out]
                have BB1 := hb0.trans (hb1.mono (by simp))
                go_wp2_with fail
                refine (getFix_impl 8 _ _ _ l _ (RDL.out.below BB1 (Nat.le_refl _)) h8l (by unfold In64; omega)).mono ?_
                rintro e w2 ⟨rfl, hb2⟩
                rw [G8.out]
                have BB2 := BB1.trans (hb2.mono BB1.size)
                have hbW : Below (w.heap.size + 1) (w.alloc (.cells #[.int .i64 0, .slice none 0 0] 43)) w2 := (hb1.mono (by simp)).trans (hb2.mono (by have := hb1.size; simpa using this))
                have k0 := HC0.out _ BB2
                have k1 := HC1.out _ BB2
                go_wp2_with fail
                refine (isFrameKind_any _ _).mono ?_
                rintro e w' ⟨rfl, rfl⟩
                rw [HKB.out]
                go_wp2_with fail
                refine (crc_impl _ _ _ (l.take 8) _ ((RDL.out.below BB2 (Nat.le_refl _)).pre 8 (by omega)) (fun y hy => h8l y (List.mem_of_mem_take hy))).mono ?_
                rintro e w3 ⟨rfl, hb3⟩
                have BB3 := BB2.trans (hb3.mono BB2.size)
                have hbW3 := hbW.trans (hb3.mono (by have := hbW.size; simp at this; omega))
                have hsW := hbW3.size
                have hz : w.heap.size < w3.heap.size := by simp at hsW; omega
                obtain ⟨hc, hf⟩ := bcell hbW3
                clear hbW hbW3 hb1 hb2 hb3 BB1
                go_wp2
                refine bodyPost_ret (v := .tuple #[.agg #[.int .i64 0, .slice none 0 0], .int .i64 0, .int .i64 4]) (by simp [results, Try.results38, go_sem, hc]) rfl ?_
                rw [HF.out, H4.out]
                exact ⟨none, 0, 0, rfl, OwnI.nil _ _ _ _, (BB3.setCell (p := ⟨w.heap.size, 0, none⟩) (Nat.le_refl _) _).setCell (p := ⟨w.heap.size, 1, none⟩) (Nat.le_refl _) _⟩
            · have H3 := Lib.hid (frameReadL_3 (l := l) (q : Int) HNL.out (Or.inr (Or.inr (Or.inr (by rw [← HHH.out]; exact hcrc)))))
              have hcri : ((H : Int) != (crcN (l.take 8) : Int)) = true := by simp; omega
              clear hcrc
              go_enter Try.func38, Try.ntmps38
              go_wp2_with fail
              refine (getFix_impl 2 _ _ _ l _ (RDL.out.below hb0 (Nat.le_refl _)) h8l (by unfold In64; omega)).mono ?_
              rintro e w1 ⟨rfl, hb1⟩
              rw [G2.out]
              have BB1 := hb0.trans (hb1.mono (by simp))
              go_wp2_with fail
              refine (getFix_impl 8 _ _ _ l _ (RDL.out.below BB1 (Nat.le_refl _)) h8l (by unfold In64; omega)).mono ?_
              rintro e w2 ⟨rfl, hb2⟩
              rw [G8.out]
              have BB2 := BB1.trans (hb2.mono BB1.size)
              have hbW : Below (w.heap.size + 1) (w.alloc (.cells #[.int .i64 0, .slice none 0 0] 43)) w2 := (hb1.mono (by simp)).trans (hb2.mono (by have := hb1.size; simpa using this))
              have k0 := HC0.out _ BB2
              have k1 := HC1.out _ BB2
              go_wp2_with fail
              refine (isFrameKind_any _ _).mono ?_
              rintro e w' ⟨rfl, rfl⟩
              rw [HKB.out]
              go_wp2_with fail
              refine (crc_impl _ _ _ (l.take 8) _ ((RDL.out.below BB2 (Nat.le_refl _)).pre 8 (by omega)) (fun y hy => h8l y (List.mem_of_mem_take hy))).mono ?_
              rintro e w3 ⟨rfl, hb3⟩
              have BB3 := BB2.trans (hb3.mono BB2.size)
              have hbW3 := hbW.trans (hb3.mono (by have := hbW.size; simp at this; omega))
              have hsW := hbW3.size
              have hz : w.heap.size < w3.heap.size := by simp at hsW; omega
              obtain ⟨hc, hf⟩ := bcell hbW3
              clear hbW hbW3 hb1 hb2 hb3 BB1
              go_wp2
              refine bodyPost_ret (v := .tuple #[.agg #[.int .i64 0, .slice none 0 0], .int .i64 0, .int .i64 3]) (by simp [results, Try.results38, go_sem, hc]) rfl ?_
              rw [HF.out, H3.out]
              exact ⟨none, 0, 0, rfl, OwnI.nil _ _ _ _, (BB3.setCell (p := ⟨w.heap.size, 0, none⟩) (Nat.le_refl _) _).setCell (p := ⟨w.heap.size, 1, none⟩) (Nat.le_refl _) _⟩
          · have H3 := Lib.hid (frameReadL_3 (l := l) (q : Int) HNL.out (Or.inr (Or.inr (Or.inl (by rw [← HNN.out]; omega)))))
            have hN6i : (60000 : Int) < (N : Int) := by omega
            clear hN6
            go_enter Try.func38, Try.ntmps38
            go_wp2_with fail
            refine (getFix_impl 2 _ _ _ l _ (RDL.out.below hb0 (Nat.le_refl _)) h8l (by unfold In64; omega)).mono ?_
            rintro e w1 ⟨rfl, hb1⟩
            rw [G2.out]
            have BB1 := hb0.trans (hb1.mono (by simp))
            go_wp2_with fail
            refine (getFix_impl 8 _ _ _ l _ (RDL.out.below BB1 (Nat.le_refl _)) h8l (by unfold In64; omega)).mono ?_
            rintro e w2 ⟨rfl, hb2⟩
            rw [G8.out]
            have BB2 := BB1.trans (hb2.mono BB1.size)
            have hbW : Below (w.heap.size + 1) (w.alloc (.cells #[.int .i64 0, .slice none 0 0] 43)) w2 := (hb1.mono (by simp)).trans (hb2.mono (by have := hb1.size; simpa using this))
            have k0 := HC0.out _ BB2
            have k1 := HC1.out _ BB2
            go_wp2_with fail
            refine (isFrameKind_any _ _).mono ?_
            rintro e w' ⟨rfl, rfl⟩
            rw [HKB.out]
            have hsW := hbW.size
            have hz : w.heap.size < w2.heap.size := by simp at hsW; omega
            obtain ⟨hc, hf⟩ := bcell hbW
            clear hbW hb1 hb2 BB1
            go_wp2
            refine bodyPost_ret (v := .tuple #[.agg #[.int .i64 0, .slice none 0 0], .int .i64 0, .int .i64 3]) (by simp [results, Try.results38, go_sem, hc]) rfl ?_
            rw [HF.out, H3.out]
            exact ⟨none, 0, 0, rfl, OwnI.nil _ _ _ _, (BB2.setCell (p := ⟨w.heap.size, 0, none⟩) (Nat.le_refl _) _).setCell (p := ⟨w.heap.size, 1, none⟩) (Nat.le_refl _) _⟩
      · have H3 := Lib.hid (frameReadL_3 (l := l) (q : Int) HNL.out (Or.inl (by rw [← HA.out]; exact hA71)))
        have hA72 : (A != 71) = true := by simp [hA71]
        clear hA71
        go_enter Try.func38, Try.ntmps38
        go_wp2_with fail
        refine (getFix_impl 2 _ _ _ l _ (RDL.out.below hb0 (Nat.le_refl _)) h8l (by unfold In64; omega)).mono ?_
        rintro e w1 ⟨rfl, hb1⟩
        rw [G2.out]
        have BB1 := hb0.trans (hb1.mono (by simp))
        go_wp2_with fail
        refine (getFix_impl 8 _ _ _ l _ (RDL.out.below BB1 (Nat.le_refl _)) h8l (by unfold In64; omega)).mono ?_
        rintro e w2 ⟨rfl, hb2⟩
        rw [G8.out]
        have BB2 := BB1.trans (hb2.mono BB1.size)
        have hbW : Below (w.heap.size + 1) (w.alloc (.cells #[.int .i64 0, .slice none 0 0] 43)) w2 := (hb1.mono (by simp)).trans (hb2.mono (by have := hb1.size; simpa using this))
        have k0 := HC0.out _ BB2
        have k1 := HC1.out _ BB2
        have hsW := hbW.size
        have hz : w.heap.size < w2.heap.size := by simp at hsW; omega
        obtain ⟨hc, hf⟩ := bcell hbW
        clear hbW hb1 hb2 BB1
        go_wp2
        refine bodyPost_ret (v := .tuple #[.agg #[.int .i64 0, .slice none 0 0], .int .i64 0, .int .i64 3]) (by simp [results, Try.results38, go_sem, hc]) rfl ?_
        rw [HF.out, H3.out]
        exact ⟨none, 0, 0, rfl, OwnI.nil _ _ _ _, (BB2.setCell (p := ⟨w.heap.size, 0, none⟩) (Nat.le_refl _) _).setCell (p := ⟨w.heap.size, 1, none⟩) (Nat.le_refl _) _⟩
  · have HF := Lib.hid (frameReadF_1 (zs := zs) (p := p) (by rw [hL.out]; omega))
    by_cases h1 : 0 ≤ p
    · have h2 : (n : Int) < p := by omega
      clear h0
      go_enter Try.func38, Try.ntmps38
      go_wp2
      refine bodyPost_ret (v := .tuple #[.agg #[.int .i64 0, .slice none 0 0], .int .i64 0, .int .i64 1]) (by simp [results, Try.results38, go_sem]) rfl ?_
      rw [HF.out]
      exact ⟨none, 0, 0, rfl, OwnI.nil _ _ _ _, hb0⟩
    · clear h0
      go_enter Try.func38, Try.ntmps38
      go_wp2
      refine bodyPost_ret (v := .tuple #[.agg #[.int .i64 0, .slice none 0 0], .int .i64 0, .int .i64 1]) (by simp [results, Try.results38, go_sem]) rfl ?_
      rw [HF.out]
      exact ⟨none, 0, 0, rfl, OwnI.nil _ _ _ _, hb0⟩
end Go.Proofs.Ytkgalkaafocnjaa

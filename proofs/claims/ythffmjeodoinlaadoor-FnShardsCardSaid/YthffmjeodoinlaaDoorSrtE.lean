/- order2_func, median_func, medianAdjacent_func and choosePivot_func over a row of Rec. -/
import Derived.Test.YthffmjeodoinlaaDoorSrt
import Derived.Sort.LotD4
namespace Go.Proofs.YthffmjeodoinlaaDoor
open Go.RowKit Go.Lib
/-- A counter in block C. -/
structure CntAt (C : Nat) (w : World) (s : Nat) : Prop where
  c : w.cell? ⟨C, 0, none⟩ = some (.int .i64 s)
  f : w.frozen? ⟨C, 0, none⟩ = false
theorem CntAt.lt {C : Nat} {w : World} {s : Nat} (h : CntAt C w s) : C < w.heap.size := World.block_lt_of_cell? _ _ h.c
theorem CntAt.below {C : Nat} {w w' : World} {s : Nat} (h : CntAt C w s) (hb : Below w.heap.size w w') : CntAt C w' s :=
  ⟨cell_later hb h.c, ((bcell hb).2 C 0 h.lt).trans h.f⟩
theorem Srt.other {blk off : Nat} {w0 w w' : World} {d : Array RecR} {C : Nat} (S : Srt blk off w0 w d) (hw : Win C (C + 1) w w') (hC : w0.heap.size ≤ C) : Srt blk off w0 w' d := by
  have hlt := S.lt
  refine ⟨holdsK_block S.hold (hw.block blk S.ltr (Or.inl (by omega))), ?_, S.lt, S.form.trans (SameForm.of_block (hw.block blk S.ltr (Or.inl (by omega))))⟩
  have W := S.win
  exact ⟨hw.os.trans W.os, hw.tape.trans W.tape, hw.output.trans W.output, Nat.le_trans W.size hw.size, fun k hk hkk => (hw.block k (Nat.lt_of_lt_of_le hk W.size) (Or.inl (by omega))).trans (W.block k hk hkk)⟩
/-- A call that counts in block C and returns r. -/
def RetC (C : Nat) (w : World) (v : Value) (s : Nat) (e : Ending) (w' : World) : Prop := e = .returned v ∧ CntAt C w' s ∧ Win C (C + 1) w w'
set_option maxHeartbeats 1600000 in
set_option maxRecDepth 100000 in
theorem srt_order2 (g sf : Nat) (lb sb : Array Value) (blk off N a b C s : Nat) (d : Array RecR) (w0 w : World) (E : SEnv g sf lb sb blk off N w0) (S : Srt blk off w0 w d) (hN : d.size = N) (ha : a < N) (hb : b < N) (hC : CntAt C w s) (hs : s < 4611686018427387904) :
    Calls Tryd.prog 86 #[.agg #[.func (.func g) #[] lb, .func (.func sf) #[] sb], .int .i64 a, .int .i64 b, .pointer (some ⟨C, 0, none⟩)] w (RetC C w (.tuple #[.int .i64 (Sort.order2 lessR d a b s).1, .int .i64 (Sort.order2 lessR d a b s).2.1]) (Sort.order2 lessR d a b s).2.2) := by
  have hal := (Below.refl w.heap.size w).alloc (Nat.le_refl _) (.cells #[.func (.func g) #[] lb, .func (.func sf) #[] sb] 101)
  have eg := E.eg
  have hl := E.less _ d (S.below hal) hN b a hb ha
  have hC1 := hC.below hal
  have hClt := hC.lt
  cases hlv : lessR d[b]! d[a]! with
  | true =>
    rw [hlv] at hl
    have e2 : Hid (Sort.order2 lessR d a b s = (b, a, s + 1)) := Lib.hid (by simp [Sort.order2, hlv])
    clear hlv
    go_enter Tryd.func86, Tryd.ntmps86
    go_wp2_with fail
    refine hl.mono ?_
    rintro e w5 ⟨rfl, hb5⟩
    obtain ⟨k0, k1⟩ := hC1.below hb5
    have hb6 := hal.trans (hb5.mono hal.size)
    go_wp2
    go_ret2
    rw [RetC, e2.out]
    exact ⟨rfl, ⟨World.cell?_setCell_same _ _ _ k0, by rw [World.frozen?_setCell]; exact k1⟩, (Win.of_below hb6).trans (Win.set _ _ _ _ (Nat.le_refl _) (Nat.lt_succ_self _))⟩
  | false =>
    rw [hlv] at hl
    have e2 : Hid (Sort.order2 lessR d a b s = (a, b, s)) := Lib.hid (by simp [Sort.order2, hlv])
    clear hlv
    go_enter Tryd.func86, Tryd.ntmps86
    go_wp2_with fail
    refine hl.mono ?_
    rintro e w5 ⟨rfl, hb5⟩
    have hC5 := hC1.below hb5
    have hb6 := hal.trans (hb5.mono hal.size)
    go_wp2
    go_ret2
    rw [RetC, e2.out]
    exact ⟨rfl, hC5, Win.of_below hb6⟩
theorem order2_in (d : Array RecR) {a b n : Nat} (s : Nat) (ha : a < n) (hb : b < n) : (Sort.order2 lessR d a b s).1 < n ∧ (Sort.order2 lessR d a b s).2.1 < n := by
  unfold Sort.order2; split <;> exact ⟨by assumption, by assumption⟩
theorem median_in (d : Array RecR) {a b c n : Nat} (s : Nat) (ha : a < n) (hb : b < n) (hc : c < n) : (Sort.median lessR d a b c s).1 < n := by
  unfold Sort.median
  have l1 := order2_in d s ha hb
  have l2 := order2_in d (Sort.order2 lessR d a b s).2.2 l1.2 hc
  exact (order2_in d (Sort.order2 lessR d (Sort.order2 lessR d a b s).2.1 c (Sort.order2 lessR d a b s).2.2).2.2 l1.1 l2.1).2
set_option maxHeartbeats 1600000 in
set_option maxRecDepth 100000 in
theorem srt_median (g sf : Nat) (lb sb : Array Value) (blk off N a b c C s : Nat) (d : Array RecR) (w0 w : World) (E : SEnv g sf lb sb blk off N w0) (S : Srt blk off w0 w d) (hN : d.size = N) (ha : a < N) (hb : b < N) (hc : c < N) (hC : CntAt C w s) (hC0 : w0.heap.size ≤ C) (hs : s + 3 < 4611686018427387904) :
    Calls Tryd.prog 83 #[.agg #[.func (.func g) #[] lb, .func (.func sf) #[] sb], .int .i64 a, .int .i64 b, .int .i64 c, .pointer (some ⟨C, 0, none⟩)] w (RetC C w (.int .i64 (Sort.median lessR d a b c s).1) (Sort.median lessR d a b c s).2) := by
  have hal := (Below.refl w.heap.size w).alloc (Nat.le_refl _) (.cells #[.func (.func g) #[] lb, .func (.func sf) #[] sb] 101)
  have S1 := S.below hal
  have hC1 := hC.below hal
  have hClt := hC.lt
  have HM : Hid (Sort.median lessR d a b c s = ((Sort.order2 lessR d (Sort.order2 lessR d a b s).1 (Sort.order2 lessR d (Sort.order2 lessR d a b s).2.1 c (Sort.order2 lessR d a b s).2.2).1 (Sort.order2 lessR d (Sort.order2 lessR d a b s).2.1 c (Sort.order2 lessR d a b s).2.2).2.2).2.1, (Sort.order2 lessR d (Sort.order2 lessR d a b s).1 (Sort.order2 lessR d (Sort.order2 lessR d a b s).2.1 c (Sort.order2 lessR d a b s).2.2).1 (Sort.order2 lessR d (Sort.order2 lessR d a b s).2.1 c (Sort.order2 lessR d a b s).2.2).2.2).2.2)) := Lib.hid rfl
  have l1 := order2_in d s ha hb
  have n1 := Sort.order2_count lessR d a b s
  have q1 := srt_order2 g sf lb sb blk off N a b C s d w0 _ E S1 hN ha hb hC1 (by omega)
  have b0 : (w.alloc (.cells #[.func (.func g) #[] lb, .func (.func sf) #[] sb] 101)).cell? ⟨w.heap.size, 0, none⟩ = some (.func (.func g) #[] lb) := by simp
  have b1 : (w.alloc (.cells #[.func (.func g) #[] lb, .func (.func sf) #[] sb] 101)).cell? ⟨w.heap.size, 1, none⟩ = some (.func (.func sf) #[] sb) := by simp
  obtain ⟨⟨a1, c1, s1⟩, e1⟩ : ∃ x, Sort.order2 lessR d a b s = x := ⟨_, rfl⟩
  rw [e1] at l1 n1 q1 HM
  simp only at l1 n1 q1 HM
  have l2 := order2_in d s1 l1.2 hc
  have n2 := Sort.order2_count lessR d c1 c s1
  obtain ⟨⟨a2, c2, s2⟩, e2⟩ : ∃ x, Sort.order2 lessR d c1 c s1 = x := ⟨_, rfl⟩
  have E2 := Lib.hid e2
  rw [e2] at l2 n2 HM
  simp only at l2 n2 HM
  have l3 := order2_in d s2 l1.1 l2.1
  have n3 := Sort.order2_count lessR d a1 a2 s2
  obtain ⟨⟨a3, c3, s3⟩, e3⟩ : ∃ x, Sort.order2 lessR d a1 a2 s2 = x := ⟨_, rfl⟩
  have E3 := Lib.hid e3
  rw [e3] at l3 n3 HM
  simp only at l3 n3 HM
  clear e1 e2 e3
  rw [HM.out]
  clear HM
  have HAL := Lib.hid hal
  clear hal
  go_enter Tryd.func83, Tryd.ntmps83
  go_wp2_with fail
  refine q1.mono ?_
  rintro e w1 ⟨rfl, k1, h1⟩
  have S2 := S1.other h1 hC0
  have b01 := cell_win h1 b0 (Or.inr (by omega))
  have b11 := cell_win h1 b1 (Or.inr (by omega))
  have q2 := srt_order2 g sf lb sb blk off N c1 c C s1 d w0 w1 E S2 hN l1.2 hc k1 (by omega)
  rw [E2.out] at q2
  simp only at q2
  clear b0 b1 q1 hC1
  go_wp2_with fail
  refine q2.mono ?_
  rintro e w2 ⟨rfl, k2, h2⟩
  have S3 := S2.other h2 hC0
  have b02 := cell_win h2 b01 (Or.inr (by omega))
  have b12 := cell_win h2 b11 (Or.inr (by omega))
  have q3 := srt_order2 g sf lb sb blk off N a1 a2 C s2 d w0 w2 E S3 hN l1.1 l2.1 k2 (by omega)
  rw [E3.out] at q3
  simp only at q3
  clear b01 b11 q2
  go_wp2_with fail
  refine q3.mono ?_
  rintro e w3 ⟨rfl, k3, h3⟩
  clear b02 b12 q3
  go_wp2
  go_ret
  exact ⟨rfl, k3, (((Win.of_below HAL.out).trans h1).trans h2).trans h3⟩
set_option maxHeartbeats 1600000 in
set_option maxRecDepth 100000 in
theorem srt_medianAdj (g sf : Nat) (lb sb : Array Value) (blk off N a C s : Nat) (d : Array RecR) (w0 w : World) (E : SEnv g sf lb sb blk off N w0) (S : Srt blk off w0 w d) (hN : d.size = N) (ha : 1 ≤ a) (hb : a + 1 < N) (hC : CntAt C w s) (hC0 : w0.heap.size ≤ C) (hs : s + 3 < 4611686018427387904) :
    Calls Tryd.prog 82 #[.agg #[.func (.func g) #[] lb, .func (.func sf) #[] sb], .int .i64 a, .pointer (some ⟨C, 0, none⟩)] w (RetC C w (.int .i64 (Sort.medianAdjacent lessR d a s).1) (Sort.medianAdjacent lessR d a s).2) := by
  have hal := (Below.refl w.heap.size w).alloc (Nat.le_refl _) (.cells #[.func (.func g) #[] lb, .func (.func sf) #[] sb] 101)
  have S1 := S.below hal
  have hC1 := hC.below hal
  have hbig := E.big
  have q1 := srt_median g sf lb sb blk off N (a - 1) a (a + 1) C s d w0 _ E S1 hN (by omega) (by omega) hb hC1 hC0 hs
  rw [show ((a - 1 : Nat) : Int) = (a : Int) - 1 by omega, show ((a + 1 : Nat) : Int) = (a : Int) + 1 by omega] at q1
  change Calls Tryd.prog 82 _ w (RetC C w (.int .i64 (Sort.median lessR d (a - 1) a (a + 1) s).1) (Sort.median lessR d (a - 1) a (a + 1) s).2)
  generalize Sort.median lessR d (a - 1) a (a + 1) s = M at *
  have HAL := Lib.hid hal
  clear hal
  go_enter Tryd.func82, Tryd.ntmps82
  go_wp2_with fail
  refine q1.mono ?_
  rintro e w1 ⟨rfl, k1, h1⟩
  go_wp2
  go_ret
  exact ⟨rfl, k1, (Win.of_below HAL.out).trans h1⟩
theorem medianAdj_in (d : Array RecR) {a n : Nat} (s : Nat) (hb : a + 1 < n) : (Sort.medianAdjacent lessR d a s).1 < n := median_in d s (by omega) (by omega) hb
/-- A call that writes nothing but what is new. -/
def RetP (w : World) (v : Value) (e : Ending) (w' : World) : Prop := e = .returned v ∧ Below w.heap.size w w'
set_option maxHeartbeats 3200000 in
set_option maxRecDepth 100000 in
theorem srt_choose (g sf : Nat) (lb sb : Array Value) (blk off N a b : Nat) (d : Array RecR) (w : World) (E : SEnv g sf lb sb blk off N w) (S : Srt blk off w w d) (hN : d.size = N) (hab : a < b) (hb : b ≤ N) :
    Calls Tryd.prog 70 #[.agg #[.func (.func g) #[] lb, .func (.func sf) #[] sb], .int .i64 a, .int .i64 b] w (RetP w (.tuple #[.int .i64 (Sort.choosePivot lessR d a b).1, .int .i64 (Sort.hintCode (Sort.choosePivot lessR d a b).2)])) := by
  have hbig := E.big
  rw [Sort.choosePivot_eq]
  simp only
  obtain ⟨I, hI⟩ : ∃ I : Nat, I = a + (b - a) / 4 * 1 := ⟨_, rfl⟩
  obtain ⟨J, hJ⟩ : ∃ J : Nat, J = a + (b - a) / 4 * 2 := ⟨_, rfl⟩
  obtain ⟨K, hK⟩ : ∃ K : Nat, K = a + (b - a) / 4 * 3 := ⟨_, rfl⟩
  have eI : ((a : Int) + ((b : Int) - (a : Int)) / 4) = (I : Int) := by omega
  have eJ : ((a : Int) + ((b : Int) - (a : Int)) / 4 * 2) = (J : Int) := by omega
  have eK : ((a : Int) + ((b : Int) - (a : Int)) / 4 * 3) = (K : Int) := by omega
  have hal := ((Below.refl w.heap.size w).alloc (Nat.le_refl _) (.cells #[.func (.func g) #[] lb, .func (.func sf) #[] sb] 101)).alloc (by simp) (.cells #[.int .i64 0] 3)
  have HAL := Lib.hid hal
  have S1 := Lib.hid (S.below hal)
  have C1 : CntAt (w.heap.size + 1) ((w.alloc (.cells #[.func (.func g) #[] lb, .func (.func sf) #[] sb] 101)).alloc (.cells #[.int .i64 0] 3)) 0 := ⟨by simp, by simp⟩
  have HC1 := Lib.hid C1
  have b0 : ((w.alloc (.cells #[.func (.func g) #[] lb, .func (.func sf) #[] sb] 101)).alloc (.cells #[.int .i64 0] 3)).cell? ⟨w.heap.size, 0, none⟩ = some (.func (.func g) #[] lb) := by simp
  have b1 : ((w.alloc (.cells #[.func (.func g) #[] lb, .func (.func sf) #[] sb] 101)).alloc (.cells #[.int .i64 0] 3)).cell? ⟨w.heap.size, 1, none⟩ = some (.func (.func sf) #[] sb) := by simp
  clear hal C1
  by_cases h8 : b - a ≥ 8
  · have h8z : (8 : Int) ≤ (b : Int) - (a : Int) := by omega
    by_cases h50 : b - a ≥ 50
    · have h50z : (50 : Int) ≤ (b : Int) - (a : Int) := by omega
      obtain ⟨⟨i1, s1⟩, e1⟩ : ∃ x, Sort.medianAdjacent lessR d I 0 = x := ⟨_, rfl⟩
      obtain ⟨⟨j1, s2⟩, e2⟩ : ∃ x, Sort.medianAdjacent lessR d J s1 = x := ⟨_, rfl⟩
      obtain ⟨⟨k1, s3⟩, e3⟩ : ∃ x, Sort.medianAdjacent lessR d K s2 = x := ⟨_, rfl⟩
      obtain ⟨⟨p, s⟩, e4⟩ : ∃ x, Sort.median lessR d i1 j1 k1 s3 = x := ⟨_, rfl⟩
      have hraw : Sort.rawPivot lessR d a b = (p, s) := by
        simp only [Sort.rawPivot, if_pos h8, if_pos h50, ← hI, ← hJ, ← hK, e1, e2, e3, e4]
      rw [hraw]
      simp only
      have m1 := Sort.medianAdjacent_count lessR d I 0
      have m2 := Sort.medianAdjacent_count lessR d J s1
      have m3 := Sort.medianAdjacent_count lessR d K s2
      have n1 := medianAdj_in (n := N) d (a := I) 0 (by omega)
      have n2 := medianAdj_in (n := N) d (a := J) s1 (by omega)
      have n3 := medianAdj_in (n := N) d (a := K) s2 (by omega)
      rw [e1] at m1 n1
      rw [e2] at m2 n2
      rw [e3] at m3 n3
      simp only at m1 m2 m3 n1 n2 n3
      have q1 := srt_medianAdj g sf lb sb blk off N I (w.heap.size + 1) 0 d w _ E S1.out hN (by omega) (by omega) HC1.out (by omega) (by omega)
      rw [e1] at q1
      simp only at q1
      have E2 := Lib.hid e2
      have E3 := Lib.hid e3
      have E4 := Lib.hid e4
      have gI : 1 ≤ J ∧ J + 1 < N ∧ 1 ≤ K ∧ K + 1 < N := by omega
      clear e1 e2 e3 e4 hraw hI hJ hK
      go_enter Tryd.func70, Tryd.ntmps70
      go_wp2_with fail
      refine q1.mono ?_
      rintro e w1 ⟨rfl, k1', h1⟩
      have S2 := S1.out.other h1 (by omega)
      have b01 := cell_win h1 b0 (Or.inl (by omega))
      have b11 := cell_win h1 b1 (Or.inl (by omega))
      have q2 := srt_medianAdj g sf lb sb blk off N J (w.heap.size + 1) s1 d w w1 E S2 hN gI.1 gI.2.1 k1' (by omega) (by omega)
      rw [E2.out] at q2
      simp only at q2
      clear b0 b1 q1
      go_wp2_with fail
      refine q2.mono ?_
      rintro e w2 ⟨rfl, k2', h2⟩
      have S3 := S2.other h2 (by omega)
      have b02 := cell_win h2 b01 (Or.inl (by omega))
      have b12 := cell_win h2 b11 (Or.inl (by omega))
      have q3 := srt_medianAdj g sf lb sb blk off N K (w.heap.size + 1) s2 d w w2 E S3 hN gI.2.2.1 gI.2.2.2 k2' (by omega) (by omega)
      rw [E3.out] at q3
      simp only at q3
      clear b01 b11 q2
      go_wp2_with fail
      refine q3.mono ?_
      rintro e w3 ⟨rfl, k3', h3⟩
      have S4 := S3.other h3 (by omega)
      have b03 := cell_win h3 b02 (Or.inl (by omega))
      have b13 := cell_win h3 b12 (Or.inl (by omega))
      have q4 := srt_median g sf lb sb blk off N i1 j1 k1 (w.heap.size + 1) s3 d w w3 E S4 hN n1 n2 n3 k3' (by omega) (by omega)
      rw [E4.out] at q4
      simp only at q4
      clear b02 b12 q3
      go_wp2_with fail
      refine q4.mono ?_
      rintro e w4 ⟨rfl, k4', h4⟩
      have hW : Win (w.heap.size + 1) (w.heap.size + 2) ((w.alloc (.cells #[.func (.func g) #[] lb, .func (.func sf) #[] sb] 101)).alloc (.cells #[.int .i64 0] 3)) w4 := ((h1.trans h2).trans h3).trans h4
      have hB := Lib.hid (HAL.out.trans (hW.below (Nat.le_succ _) (by simp; omega)))
      have cC := k4'.c
      clear b03 b13 q4 k1' k2' k3' k4' h1 h2 h3 h4 hW
      by_cases z0 : s = 0
      · subst z0
        go_wp2
        go_ret2
        exact ⟨rfl, hB.out⟩
      · have z0i : ((s : Int) == 0) = false := by simp; omega
        by_cases z1 : s = 12
        · subst z1
          go_wp2
          go_ret2
          exact ⟨rfl, hB.out⟩
        · have z1i : ((s : Int) == 12) = false := by simp; omega
          have HH : Hid (Sort.hintCode (Sort.hintOf s) = 0) := Lib.hid (by unfold Sort.hintOf; rw [if_neg z0, if_neg z1]; rfl)
          go_wp2
          go_ret2
          exact ⟨by rw [HH.out]; rfl, hB.out⟩
    · have h50z : ¬ (50 : Int) ≤ (b : Int) - (a : Int) := by omega
      obtain ⟨⟨p, s⟩, e4⟩ : ∃ x, Sort.median lessR d I J K 0 = x := ⟨_, rfl⟩
      have hraw : Sort.rawPivot lessR d a b = (p, s) := by simp only [Sort.rawPivot, if_pos h8, if_neg h50, ← hI, ← hJ, ← hK, e4]
      rw [hraw]
      simp only
      have q4 := srt_median g sf lb sb blk off N I J K (w.heap.size + 1) 0 d w _ E S1.out hN (by omega) (by omega) (by omega) HC1.out (by omega) (by omega)
      rw [e4] at q4
      simp only at q4
      clear e4 hraw hI hJ hK
      go_enter Tryd.func70, Tryd.ntmps70
      go_wp2_with fail
      refine q4.mono ?_
      rintro e w4 ⟨rfl, k4', h4⟩
      have hB := Lib.hid (HAL.out.trans (h4.below (Nat.le_succ _) (by simp; omega)))
      have cC := k4'.c
      clear b0 b1 q4 k4' h4
      by_cases z0 : s = 0
      · subst z0
        go_wp2
        go_ret2
        exact ⟨rfl, hB.out⟩
      · have z0i : ((s : Int) == 0) = false := by simp; omega
        by_cases z1 : s = 12
        · subst z1
          go_wp2
          go_ret2
          exact ⟨rfl, hB.out⟩
        · have z1i : ((s : Int) == 12) = false := by simp; omega
          have HH : Hid (Sort.hintCode (Sort.hintOf s) = 0) := Lib.hid (by unfold Sort.hintOf; rw [if_neg z0, if_neg z1]; rfl)
          go_wp2
          go_ret2
          exact ⟨by rw [HH.out]; rfl, hB.out⟩
  · have h8z : ¬ (8 : Int) ≤ (b : Int) - (a : Int) := by omega
    have hraw : Sort.rawPivot lessR d a b = (J, 0) := by simp only [Sort.rawPivot, if_neg h8, ← hJ]
    rw [hraw]
    simp only
    have cC := HC1.out.c
    clear hraw hI hJ hK
    go_enter Tryd.func70, Tryd.ntmps70
    go_wp2
    go_ret2
    exact ⟨rfl, HAL.out⟩
end Go.Proofs.YthffmjeodoinlaaDoor

/- Batches of the program and of the reference: what they compute. -/
import Derived.Test.YthffmjeodoinlaaDoorBatchP
import Derived.Test.YthffmjeodoinlaaDoorSortOneS
namespace Go.Proofs.YthffmjeodoinlaaDoor
open Go.RowKit
def lenV : Value → Nat
  | .slice _ m _ => m
  | _ => 0
theorem rd_first {w : World} {a : Option Addr} {n c : Nat} {xs : List RecR} (h : Rd encRec 3 w a n c xs) (m : Nat) (hm : m ≤ n) : Rd encRec 3 w a m c (xs.take m) := by
  refine ⟨by have := h.le; omega, h.max, by rw [List.length_take, h.len]; omega, (fun ha => by have := h.none ha; omega), fun h0 => ?_⟩
  obtain ⟨b, off, ha, hl, hc⟩ := h.spot (by omega)
  refine ⟨b, off, ha, hl, fun i hi f u hu => ?_⟩
  rw [List.length_take] at hi
  exact hc i (by omega) f u (by rwa [List.getElem_take] at hu)
theorem rd_empty (w : World) (b off : Nat) : Rd encRec 3 w (some ⟨b, off, none⟩) 0 0 [] := ⟨Nat.le_refl _, by unfold maxLen; omega, rfl, (fun hh => by cases hh), fun h => absurd h (Nat.lt_irrefl 0)⟩
theorem rd_later {w : World} {b off n c : Nat} {xs : List RecR} (h : Rd encRec 3 w (some ⟨b, off, none⟩) n c xs) (p : Nat) (hp : p ≤ n) : Rd encRec 3 w (some ⟨b, off + p * 3, none⟩) (n - p) (c - p) (xs.drop p) := by
  refine ⟨by have := h.le; omega, by have := h.max; omega, by rw [List.length_drop, h.len], (fun hh => by cases hh), fun h0 => ?_⟩
  obtain ⟨b', off', ha, hl, hc⟩ := h.spot (by omega)
  cases ha
  refine ⟨b, off + p * 3, rfl, hl, fun i hi f u hu => ?_⟩
  have := hc (p + i) (by rw [List.length_drop] at hi; omega) f u (by rwa [List.getElem_drop] at hu)
  rw [← this]
  congr 2
  omega
set_option maxHeartbeats 3200000 in
set_option maxRecDepth 100000 in
theorem batches_impl (a : Option Addr) (n c : Nat) (xs : List RecR) (size : Int) (w : World) (h : Rd encRec 3 w a n c xs) (hn : n ≤ 1048576) (hz : In64 size) :
    Calls Tryd.prog 30 #[.slice a n c, .int .i64 size] w fun e w' => RetBats (batF xs size) w e w' := by
  obtain ⟨j0, ji, jz0, jz1, jz2⟩ := info_parts infoBatch
  have hL := h.len
  have hmx := h.max
  by_cases hs : size < 1
  · have HF := Lib.hid (show batF xs size = [] from by unfold batF; rw [if_pos hs])
    go_enter Tryd.func30, Tryd.ntmps30
    go_wp2
    go_ret
    exact ⟨⟨none, 0, 0, []⟩, rfl, HF.out.symm, ⟨OwnN.nil _ _ _ _ _ _ _ _ _⟩, ⟨Nat.zero_le _, by unfold preBatch; simp⟩, Below.refl _ _⟩
  · obtain ⟨s, rfl⟩ : ∃ s : Nat, size = (s : Int) := ⟨size.toNat, by omega⟩
    have hs1 : 1 ≤ s := by omega
    have hs2 : ¬ ((s : Int) < 1) := by omega
    have HF := Lib.hid (show batF xs s = batGo s xs.length xs from by unfold batF; rw [if_neg hs]; rfl)
    generalize batF xs s = F at *
    clear hs
    unfold In64 at hz
    go_enter Tryd.func30, Tryd.ntmps30
    go_wp2
    go_loopw [0, 5] (fun l out wr => ∃ (p q : Nat) (A : Option Addr) (C : Nat), p + q = n ∧ l = .slice A q C ∧ Hid (Rd encRec 3 w A q C (xs.drop p)) ∧ Hid (BatInv F s xs w out p wr)) (fun l _ _ => lenV l)
    case atStart => exact ⟨0, n, a, c, by omega, rfl, Lib.hid h, Lib.hid ⟨⟨none, 0, 0, []⟩, rfl, ⟨OwnN.nil _ _ _ _ _ _ _ _ _⟩, ⟨Nat.le_refl _, by unfold preBatch; simp⟩, by rw [HF.out]; rfl, Below.refl _ _⟩⟩
    case round =>
      obtain ⟨p, q, A, C, hpq, rfl, HR, HI⟩ := hrel
      obtain ⟨⟨yA, yN, yC, yL⟩, rfl, hN, hbk, hfin, hb⟩ := HI.out
      have HNN := Lib.hid hN
      have HBK := Lib.hid hbk
      have HFIN := Lib.hid hfin
      have hqC := HR.out.le
      have hCm := HR.out.max
      have hyN : yN ≤ p := hbk.1
      clear hN hbk hfin HI
      simp only
      by_cases hq : 0 < q
      · obtain ⟨b, off, rfl, _⟩ := HR.out.spot hq
        have hqi : (0 : Int) < (q : Int) := by omega
        obtain ⟨m, hm⟩ : ∃ m, m = min s q := ⟨_, rfl⟩
        have hmi : min (s : Int) (q : Int) = (m : Int) := by omega
        have hmq : m ≤ q := by omega
        have hmC : m ≤ C := by omega
        have hm1 : 1 ≤ m := by omega
        have HM := Lib.hid (show m = min s (xs.length - p) from by rw [hm, hL]; congr 1; omega)
        have hso := fun w h => sortOne_impl (some ⟨b, off, none⟩) m C ((xs.drop p).take m) w h (by omega)
        have HR2 := Lib.hid ((rd_first HR.out m hmq).below hb (Nat.le_refl _))
        go_wp2_with fail
        rw [← hm]
        refine (hso _ HR2.out).mono ?_
        rintro e w1 ⟨⟨zA, zN, zC, zL⟩, rfl, hdz, hoz, hkz, hb1⟩
        have HDZ := Lib.hid hdz
        have HOZ := Lib.hid hoz
        have hal := (Below.refl w1.heap.size w1).alloc (Nat.le_refl _) (.cells #[.slice zA zN zC] 74)
        have hbW := hb1.trans (hal.mono hb1.size)
        have hsz1 := hb1.size
        have hsz0 := hb.size
        clear hdz hoz hkz hso HR2
        go_wp2_with (at_builtin; refine app_two rfl _ _ 68 rfl w.heap.size 74 Tryd.underlying68 ji jz0 jz1 jz2 rfl (by decide) yA yN yC (yL.flatMap encBatch) rfl ((HNN.out.nest.row.below hbW).own) ⟨w1.heap.size, 0, none⟩ 1 1 (encBatch ⟨zA, zN, zC, zL⟩) rfl rfl ?c1 (oneBatch _) (by decide) ?c2 ?c3 ?c4 ?_)
        case c1 => exact World.news_of_block (heap_alloc_new w1 (.cells #[.slice zA zN zC] 74))
        case c2 => unfold maxLen; omega
        case c3 => omega
        case c4 => simp; omega
        intro A2 C2 w2 ho2 hg2 hnew2
        have HNX := Lib.hid (BatInv.next (y := ⟨yA, yN, yC, yL⟩) (z := ⟨zA, zN, zC, zL⟩) hs1 (by omega) HM.out HNN.out HBK.out HFIN.out hb HDZ.out HOZ.out hb1 hal ho2 hg2 (by simpa using hnew2) (by omega))
        by_cases hCm2 : C = m
        · have hqm : q - m = 0 := by omega
          have hqm2 : q - min s q = 0 := by omega
          have hC2 : C = min s q := by omega
          have HR5 : Hid (Rd encRec 3 w (some ⟨b, off, none⟩) 0 0 (xs.drop (p + m))) := Lib.hid (by rw [List.drop_of_length_le (by omega)]; exact rd_empty w b off)
          clear ho2 hg2 hnew2
          go_wp2
          go_roundw
          case rel => exact ⟨p + m, 0, some ⟨b, off, none⟩, 0, by omega, rfl, HR5, HNX⟩
          case measure => simp only [lenV]; omega
        · have hC2 : ¬ C = min s q := by omega
          have hC3 : ¬ C - min s q = 0 := by omega
          have HR5 : Hid (Rd encRec 3 w (some ⟨b, off + m * 3, none⟩) (q - m) (C - m) (xs.drop (p + m))) := Lib.hid (by rw [← List.drop_drop]; exact rd_later HR.out m hmq)
          clear ho2 hg2 hnew2
          go_wp2
          go_roundw
          case rel => exact ⟨p + m, q - m, some ⟨b, off + m * 3, none⟩, C - m, by omega, by rw [hm], HR5, HNX⟩
          case measure => simp only [lenV]; omega
      · obtain rfl : q = 0 := by omega
        have HE := Lib.hid (show datBatchS ⟨yA, yN, yC, yL⟩ = F from by have := HFIN.out; rwa [batGo_nil _ _ _ (by rw [List.length_drop]; omega), List.append_nil] at this)
        go_wp2
        go_ret
        exact ⟨⟨yA, yN, yC, yL⟩, rfl, HE.out, HNN.out, ⟨by show yN ≤ 1048576; omega, by have h9 := HBK.out.2; simp only at h9 ⊢; omega⟩, hb⟩
theorem batches_impl_k (y : Row RecR) (D : List RecR) (hD : datRecS y = D) (size : Int) (w : World) (g : rdRecS w y) (hn : bulkRecS y ≤ 1048576) (hz : In64 size) :
    Calls Tryd.prog 30 #[.slice y.a y.n y.c, .int .i64 size] w fun e w' => RetBats (batF D size) w e w' := by
  subst hD
  exact batches_impl _ _ _ _ _ _ g hn hz
/-- .. in the form that the law's walk uses. -/
def RetBatL (F : List (List RecR)) (w : World) (en : Ending) (w' : World) : Prop := ∃ r : Row BatchR, en = .returned (.slice r.a r.n r.c) ∧ datBatchS r = F ∧ OwnBatchS w.heap.size w'.heap.size w' r ∧ bulkBatchS r ≤ 2097152 ∧ Below w.heap.size w w'
theorem batches_impl_l (y : Row RecR) (D : List RecR) (hD : datRecS y = D) (size : Int) (w : World) (g : rdRecS w y) (hn : bulkRecS y ≤ 1048576) (hz : In64 size) :
    Calls Tryd.prog 30 #[.slice y.a y.n y.c, .int .i64 size] w fun e w' => RetBatL (batF D size) w e w' :=
  (batches_impl_k y D hD size w g hn hz).mono fun _ _ ⟨r, h1, h2, h3, h4, h5⟩ => ⟨r, h1, h2, h3, by unfold bulkBatchS; omega, h5⟩
end Go.Proofs.YthffmjeodoinlaaDoor

/- Graphs that are made. -/
import Derived.Test.YtgkgbpgnbnledaaDoorDrawG
namespace Go.Proofs.YtgkgbpgnbnledaaDoor
open Go.RowKit
/-- A graph that is made of the code. -/
def RetMG (w : World) (en : Ending) (w' : World) : Prop := ∃ y : GraphR, en = .returned (.agg #[.int .i64 y.n, .slice y.edgesA y.edgesN y.edgesC]) ∧ OwnGraph w.heap.size w'.heap.size w' y ∧ (1 ≤ y.n ∧ y.n ≤ 8) ∧ y.edgesN ≤ 13 ∧ (∀ e ∈ y.edges, mgE y.n e) ∧ Below w.heap.size w w'
set_option maxRecDepth 100000 in
set_option maxHeartbeats 3200000 in
theorem makeGraph_any (a : Option Addr) (n cap : Nat) (zs : List Int) (w : World) (h : Rd (encI .u8) 1 w a n cap zs) (hn : n ≤ 1048576) :
    Calls Tryd.prog 28 #[.slice a n cap] w fun e w' => RetMG w e w' := by
  have ha0 := (Below.refl w.heap.size w).alloc (Nat.le_refl _) (.cells #[.int .i64 0, .slice none 0 0] 36)
  have hz := GCell.new w 36 0 none 0 0
  have hs0 : (w.alloc (.cells #[.int .i64 0, .slice none 0 0] 36)).heap.size = w.heap.size + 1 := by simp
  have h0 := h.below ha0 (Nat.le_refl _)
  go_enter Tryd.func28, Tryd.ntmps28
  go_wp2_with fail
  refine (l01New_any a n cap zs _ h0 hn).mono ?_
  rintro e w1 ⟨R, rfl, hR, hC, hb⟩
  rw [hs0] at hR
  have hb1 := ha0.trans (hb.mono ha0.size)
  have hz1 := hz.below hb
  have h1 := h.below hb1 (Nat.le_refl _)
  clear hz h0 ha0
  go_wp2_with fail
  refine (l04Draw_any R a n cap zs w w1 h hb1 (by omega) hC hn).mono ?_
  rintro e w2 ⟨y, rfl, ho, ⟨hn0, hn8⟩, hm, hall, _, hW⟩
  have hzl1 := hz1.lt
  have hz2 := hz1.win hW (Or.inl (by omega))
  have hb2 := hb1.trans (hW.below (by omega) hb1.size)
  have hs1 := hb1.size
  have hs2 := hW.size
  have hzl := hz2.lt
  have hol := Lib.hid (fun g hg => (World.ownsRow.lt ho.row.own g hg).1)
  obtain ⟨yn, yA, yN, yC, yl⟩ := y
  simp only at hn0 hn8 hm hall hol
  have fin : ∀ (v : Int) (wF : World), 1 ≤ v → v ≤ 8 → (∀ e ∈ yl, mgE v e) → (∀ b, b < w2.heap.size → b ≠ w.heap.size → wF.heap[b]? = w2.heap[b]?) → w2.heap.size ≤ wF.heap.size → Below w.heap.size w wF → RetMG w (.returned (.agg #[.int .i64 v, .slice yA yN yC])) wF := by
    intro v wF hv1 hv8 hall2 hk hsz hbF
    refine ⟨⟨v, yA, yN, yC, yl⟩, rfl, ⟨OwnS.of (own_base (own_keep' ho.row.own (fun g hg => hk g (by have := ho.row.lt g hg; omega) (by have := hol.out g hg; omega))) hs1) ho.row.len (show yN ≤ _ by omega), Nat.le_refl _⟩, ⟨hv1, hv8⟩, hm, hall2, hbF⟩
  have FIN := Lib.hid fin
  clear fin hz1 hb hC h1
  by_cases hN : yn = 0
  · subst hN
    have hl0 : yl = [] := by
      cases yl with
      | nil => rfl
      | cons e r => have := (hall e (by simp)).1; omega
    have hzS := (hz2.setN 1).setE yA yN yC
    have hal := (Below.refl ((w2.setCell ⟨w.heap.size, 0, none⟩ (.int .i64 1)).setCell ⟨w.heap.size, 1, none⟩ (.slice yA yN yC)).heap.size ((w2.setCell ⟨w.heap.size, 0, none⟩ (.int .i64 1)).setCell ⟨w.heap.size, 1, none⟩ (.slice yA yN yC))).alloc (Nat.le_refl _) (.cells #[.int .i64 1, .slice yA yN yC] 36)
    have hzF := hzS.below hal
    have hk : ∀ b, b < w2.heap.size → b ≠ w.heap.size → (((w2.setCell ⟨w.heap.size, 0, none⟩ (.int .i64 1)).setCell ⟨w.heap.size, 1, none⟩ (.slice yA yN yC)).alloc (.cells #[.int .i64 1, .slice yA yN yC] 36)).heap[b]? = w2.heap[b]? := fun b hb1 hb2 => by
      rw [hal.block b (by simpa using hb1), Below.heap_setCell _ _ _ _ hb2, Below.heap_setCell _ _ _ _ hb2]
    have hbF := hb2.trans ((((Below.refl w.heap.size w2).setCell (p := ⟨w.heap.size, 0, none⟩) (Nat.le_refl _) (.int .i64 1)).setCell (p := ⟨w.heap.size, 1, none⟩) (Nat.le_refl _) (.slice yA yN yC)).trans (hal.mono (by simp; omega)))
    have HF := Lib.hid (FIN.out 1 _ (by omega) (by omega) (by rw [hl0]; intro e he; simp at he) hk (by simp) hbF)
    obtain ⟨z0, z1, z2, z3⟩ := hz2
    obtain ⟨y0, y1, y2, y3⟩ := hzF
    clear hk hbF hal hzS
    go_wp2
    refine bodyPost_ret (v := .agg #[.int .i64 1, .slice yA yN yC]) (by simp [results, Tryd.results28, go_sem, y0, y1]) rfl ?_
    exact HF.out
  · have hN1 : (yn == 0) = false := by simp; omega
    have hzS := (hz2.setN yn).setE yA yN yC
    have hal := (Below.refl ((w2.setCell ⟨w.heap.size, 0, none⟩ (.int .i64 yn)).setCell ⟨w.heap.size, 1, none⟩ (.slice yA yN yC)).heap.size ((w2.setCell ⟨w.heap.size, 0, none⟩ (.int .i64 yn)).setCell ⟨w.heap.size, 1, none⟩ (.slice yA yN yC))).alloc (Nat.le_refl _) (.cells #[.int .i64 yn, .slice yA yN yC] 36)
    have hzF := hzS.below hal
    have hk : ∀ b, b < w2.heap.size → b ≠ w.heap.size → (((w2.setCell ⟨w.heap.size, 0, none⟩ (.int .i64 yn)).setCell ⟨w.heap.size, 1, none⟩ (.slice yA yN yC)).alloc (.cells #[.int .i64 yn, .slice yA yN yC] 36)).heap[b]? = w2.heap[b]? := fun b hb1 hb2 => by
      rw [hal.block b (by simpa using hb1), Below.heap_setCell _ _ _ _ hb2, Below.heap_setCell _ _ _ _ hb2]
    have hbF := hb2.trans ((((Below.refl w.heap.size w2).setCell (p := ⟨w.heap.size, 0, none⟩) (Nat.le_refl _) (.int .i64 yn)).setCell (p := ⟨w.heap.size, 1, none⟩) (Nat.le_refl _) (.slice yA yN yC)).trans (hal.mono (by simp; omega)))
    have HF := Lib.hid (FIN.out yn _ (by omega) hn8 hall hk (by simp) hbF)
    obtain ⟨z0, z1, z2, z3⟩ := hz2
    obtain ⟨y0, y1, y2, y3⟩ := hzF
    clear hk hbF hal hzS
    go_wp2
    refine bodyPost_ret (v := .agg #[.int .i64 yn, .slice yA yN yC]) (by simp [results, Tryd.results28, go_sem, y0, y1]) rfl ?_
    exact HF.out
end Go.Proofs.YtgkgbpgnbnledaaDoor

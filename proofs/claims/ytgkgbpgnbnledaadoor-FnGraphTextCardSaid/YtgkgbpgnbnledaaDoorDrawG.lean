/- Graphs that are drawn. -/
import Derived.Test.YtgkgbpgnbnledaaDoorDraw
import Derived.Test.YtgkgbpgnbnledaaDoorGraphU
import Derived.Deep.AppendLies
import Derived.Deep.RegionHeld3
import Derived.Test.YtgkgbpgnbnledaaDoorOutR
import Derived.OrdersHeld
namespace Go.Proofs.YtgkgbpgnbnledaaDoor
open Go.RowKit
/-- A graph in a block of the call's own. -/
structure GCell (w : World) (G : Nat) (n : Int) (A : Option Addr) (m C : Nat) : Prop where
  c0 : w.cell? ⟨G, 0, none⟩ = some (.int .i64 n)
  c1 : w.cell? ⟨G, 1, none⟩ = some (.slice A m C)
  f0 : w.frozen? ⟨G, 0, none⟩ = false
  f1 : w.frozen? ⟨G, 1, none⟩ = false
theorem GCell.lt {w : World} {G : Nat} {n : Int} {A : Option Addr} {m C : Nat} (h : GCell w G n A m C) : G < w.heap.size := World.block_lt_of_cell? _ _ h.c0
theorem GCell.keep {w w' : World} {G : Nat} {n : Int} {A : Option Addr} {m C : Nat} (h : GCell w G n A m C) (hb : w'.heap[G]? = w.heap[G]?) : GCell w' G n A m C := by
  have c : ∀ o, w'.cell? ⟨G, o, none⟩ = w.cell? ⟨G, o, none⟩ := fun o => World.cell?_of_block (w := w) (a := ⟨G, o, none⟩) hb
  have f : ∀ o, w'.frozen? ⟨G, o, none⟩ = w.frozen? ⟨G, o, none⟩ := fun o => by unfold World.frozen?; rw [hb]
  exact ⟨(c 0).trans h.c0, (c 1).trans h.c1, (f 0).trans h.f0, (f 1).trans h.f1⟩
theorem GCell.below {w w' : World} {G : Nat} {n : Int} {A : Option Addr} {m C : Nat} (h : GCell w G n A m C) (hb : Below w.heap.size w w') : GCell w' G n A m C := h.keep (hb.block G h.lt)
theorem GCell.win {w w' : World} {G lo hi : Nat} {n : Int} {A : Option Addr} {m C : Nat} (h : GCell w G n A m C) (hw : Win lo hi w w') (hd : G < lo ∨ hi ≤ G) : GCell w' G n A m C := h.keep (hw.block G h.lt hd)
theorem GCell.setN {w : World} {G : Nat} {n : Int} {A : Option Addr} {m C : Nat} (h : GCell w G n A m C) (v : Int) : GCell (w.setCell ⟨G, 0, none⟩ (.int .i64 v)) G v A m C :=
  ⟨World.cell?_setCell_same _ _ _ h.c0, by rw [World.cell?_setCell_other _ _ _ _ (by simp)]; exact h.c1, by rw [World.frozen?_setCell]; exact h.f0, by rw [World.frozen?_setCell]; exact h.f1⟩
theorem GCell.setE {w : World} {G : Nat} {n : Int} {A : Option Addr} {m C : Nat} (h : GCell w G n A m C) (A' : Option Addr) (m' C' : Nat) : GCell (w.setCell ⟨G, 1, none⟩ (.slice A' m' C')) G n A' m' C' :=
  ⟨by rw [World.cell?_setCell_other _ _ _ _ (by simp)]; exact h.c0, World.cell?_setCell_same _ _ _ h.c1, by rw [World.frozen?_setCell]; exact h.f0, by rw [World.frozen?_setCell]; exact h.f1⟩
theorem GCell.new (w : World) (t : TypeId) (n : Int) (A : Option Addr) (m C : Nat) : GCell (w.alloc (.cells #[.int .i64 n, .slice A m C] t)) w.heap.size n A m C := ⟨by simp [go_sem], by simp [go_sem], by simp [go_sem], by simp [go_sem]⟩
theorem infoEdgeD : (Tryd.prog.info? 50).map (fun i => (i.zero, i.size, i.bytes)) = some (some (.agg #[.int .i64 0, .int .i64 0, .int .i64 0]), 3, 24) := by kernel_rfl
/-- An edge that is drawn. -/
def mgE (n : Int) (e : EdgeR) : Prop := (0 ≤ e.fr ∧ e.fr < n) ∧ (0 ≤ e.to ∧ e.to < n) ∧ 0 ≤ e.wt ∧ e.wt < 8
/-- A graph that is drawn, of n up to 8. -/
def RetGD (R : Nat) (a : Option Addr) (n cap : Nat) (w : World) (en : Ending) (w' : World) : Prop := ∃ y : GraphR, en = .returned (.agg #[.int .i64 y.n, .slice y.edgesA y.edgesN y.edgesC]) ∧ OwnGraph w.heap.size w'.heap.size w' y ∧ (0 ≤ y.n ∧ y.n ≤ 8) ∧ y.edgesN ≤ 13 ∧ (∀ e ∈ y.edges, mgE y.n e) ∧ Cur w' R a n cap ∧ Win R (R + 1) w w'
/-- The loop's state. -/
structure GDInv (R : Nat) (a : Option Addr) (n cap : Nat) (w wr : World) (G N k : Nat) (A : Option Addr) (C : Nat) (ys : List EdgeR) : Prop where
  g : GCell wr G N A k C
  z : GCell wr w.heap.size 0 none 0 0
  own : wr.ownsRow (G + 1) 50 3 (.slice A k C) k (ys.flatMap encEdge)
  len : ys.length = k
  all : ∀ e ∈ ys, mgE N e
  cur : Cur wr R a n cap
  win : Win R (R + 1) w wr
  zg : w.heap.size < G
  rw0 : R < w.heap.size
theorem GDInv.win2 {R : Nat} {a : Option Addr} {n cap : Nat} {w wr wr' : World} {G N k : Nat} {A : Option Addr} {C : Nat} {ys : List EdgeR} (h : GDInv R a n cap w wr G N k A C ys) (hW : Win R (R + 1) wr wr') (hC : Cur wr' R a n cap) : GDInv R a n cap w wr' G N k A C ys :=
  ⟨h.g.win hW (Or.inr (by have := h.zg; have := h.rw0; omega)), h.z.win hW (Or.inr h.rw0), own_win h.own hW (fun g hg => Or.inr (by have := (World.ownsRow.lt h.own g hg).1; have := h.zg; have := h.rw0; omega)), h.len, h.all, hC, h.win.trans hW, h.zg, h.rw0⟩
theorem GDInv.later {R : Nat} {a : Option Addr} {n cap : Nat} {w wr wr' : World} {G N k : Nat} {A : Option Addr} {C : Nat} {ys : List EdgeR} (h : GDInv R a n cap w wr G N k A C ys) (hb : Below wr.heap.size wr wr') : GDInv R a n cap w wr' G N k A C ys :=
  ⟨h.g.below hb, h.z.below hb, own_below h.own hb (Nat.le_refl _), h.len, h.all, h.cur.below hb, h.win.trans (Win.of_below hb), h.zg, h.rw0⟩
theorem GDInv.far {R : Nat} {a : Option Addr} {n cap : Nat} {w wr w9 : World} {G N k : Nat} {A : Option Addr} {C : Nat} {ys : List EdgeR} (h : GDInv R a n cap w wr G N k A C ys) (hg9 : wr.grownBy w9 (Value.slice A k C).ownBlock) (b : Nat) (hb : b ≤ G) : w9.heap[b]? = wr.heap[b]? :=
  hg9.block b (Nat.lt_of_le_of_lt hb h.g.lt) (fun e => by have := (World.ownsRow.lt h.own b e.symm).1; omega)
theorem GDInv.gk {R : Nat} {a : Option Addr} {n cap : Nat} {w wr w9 : World} {G N k : Nat} {A : Option Addr} {C : Nat} {ys : List EdgeR} (h : GDInv R a n cap w wr G N k A C ys) (hg9 : wr.grownBy w9 (Value.slice A k C).ownBlock) : GCell w9 G N A k C := h.g.keep (h.far hg9 G (Nat.le_refl _))
theorem GDInv.ck {R : Nat} {a : Option Addr} {n cap : Nat} {w wr w9 : World} {G N k : Nat} {A : Option Addr} {C : Nat} {ys : List EdgeR} (h : GDInv R a n cap w wr G N k A C ys) (hg9 : wr.grownBy w9 (Value.slice A k C).ownBlock) : Cur w9 R a n cap := h.cur.keep (h.far hg9 R (by have := h.zg; have := h.rw0; omega))
theorem GDInv.wk {R : Nat} {a : Option Addr} {n cap : Nat} {w wr w9 : World} {G N k : Nat} {A : Option Addr} {C : Nat} {ys : List EdgeR} (h : GDInv R a n cap w wr G N k A C ys) (hg9 : wr.grownBy w9 (Value.slice A k C).ownBlock) : Win R (R + 1) w w9 :=
  h.win.then_below (below_grown hg9 (B := w.heap.size) (by have := h.zg; have := h.g.lt; omega) (fun q hq => by have := (World.ownsRow.lt h.own q hq).1; have := h.zg; omega))
theorem GDInv.put {R : Nat} {a : Option Addr} {n cap : Nat} {w wr w9 : World} {G N k : Nat} {A : Option Addr} {C : Nat} {ys : List EdgeR} (h : GDInv R a n cap w wr G N k A C ys) (hg9 : wr.grownBy w9 (Value.slice A k C).ownBlock) {A9 : Option Addr} {C9 : Nat} {xs : EdgeR}
    (ho9 : w9.ownsRow (G + 1) 50 3 (.slice A9 (k + 1) C9) (k + 1) (ys.flatMap encEdge ++ encEdge xs)) (hx : mgE N xs) : GDInv R a n cap w (w9.setCell ⟨G, 1, none⟩ (.slice A9 (k + 1) C9)) G N (k + 1) A9 C9 (ys ++ [xs]) := by
  have hz := h.zg
  have hr := h.rw0
  have hk : ∀ b, b ≠ G → (w9.setCell ⟨G, 1, none⟩ (.slice A9 (k + 1) C9)).heap[b]? = w9.heap[b]? := fun b hb => Below.heap_setCell _ _ _ _ hb
  refine ⟨(h.gk hg9).setE _ _ _, (h.z.keep (h.far hg9 _ (by omega))).keep (hk _ (by omega)), own_keep' (by rw [List.flatMap_append]; simpa using ho9) (fun g hg => hk g (by have := (World.ownsRow.lt ho9 g hg).1; omega)), by rw [List.length_append, h.len]; rfl, ?_, (h.ck hg9).keep (hk _ (by omega)), (h.wk hg9).then_below ((Below.refl w.heap.size w9).setCell (p := ⟨G, 1, none⟩) (by show w.heap.size ≤ G; omega) _), hz, hr⟩
  intro e he
  rcases List.mem_append.1 he with h1 | h1
  · exact h.all e h1
  · rw [List.mem_singleton.1 h1]; exact hx
theorem one_edge (x : EdgeR) : ∀ u ∈ encEdge x, u.oneCell' = true := by
  intro u hu
  simp [encEdge] at hu
  rcases hu with rfl | rfl | rfl <;> rfl
set_option maxRecDepth 100000 in
set_option maxHeartbeats 6400000 in
theorem l04Draw_any (R : Nat) (a : Option Addr) (n cap : Nat) (zs : List Int) (w0 w : World) (h : Rd (encI .u8) 1 w0 a n cap zs) (hb0 : Below w0.heap.size w0 w) (hRw : w0.heap.size ≤ R) (hC : Cur w R a n cap) (hn : n ≤ 1048576) :
    Calls Tryd.prog 59 #[.pointer (some ⟨R, 0, none⟩)] w fun e w' => RetGD R a n cap w e w' := by
  have hRl := hC.lt
  obtain ⟨i0, hi, hz0, hz1, hz2⟩ := info_parts infoEdgeD
  have ha0 := (Below.refl w.heap.size w).alloc (Nat.le_refl _) (.cells #[.int .i64 0, .slice none 0 0] 36)
  have hz := GCell.new w 36 0 none 0 0
  have hbS := hb0.trans (ha0.mono hb0.size)
  have hCS := hC.below ha0
  go_enter Tryd.func59, Tryd.ntmps59
  go_wp2_with fail
  refine (l01Below_any R a n cap zs 9 (by omega) w0 _ h hbS hRw hCS hn).mono ?_
  rintro e w1 ⟨x, rfl, hx0, _, hx1, hC1, hW1⟩
  have hx2 := hx1 (by omega)
  have HW1 : Win R (R + 1) w w1 := (Win.of_below ha0).trans hW1
  have hz1' := hz.win hW1 (Or.inr (by omega))
  have hs1 := HW1.size
  have hzl := hz1'.lt
  have hal := (Below.refl w1.heap.size w1).alloc (Nat.le_refl _) (.cells #[.int .i64 x, .slice none 0 0] 36)
  have hg := GCell.new w1 36 x none 0 0
  have hz2' := hz1'.below hal
  have hC2 := hC1.below hal
  have HW2 := HW1.trans (Win.of_below hal)
  simp only
  clear hx1 hz hCS hbS ha0 hW1
  by_cases hN : x = 0
  · subst hN
    have hbs : Below w.heap.size w1 ((w1.setCell ⟨w.heap.size, 0, none⟩ (.int .i64 0)).setCell ⟨w.heap.size, 1, none⟩ (.slice none 0 0)) := ((Below.refl w.heap.size w1).setCell (p := ⟨w.heap.size, 0, none⟩) (Nat.le_refl _) _).setCell (p := ⟨w.heap.size, 1, none⟩) (Nat.le_refl _) _
    have hzS : GCell ((w1.setCell ⟨w.heap.size, 0, none⟩ (.int .i64 0)).setCell ⟨w.heap.size, 1, none⟩ (.slice none 0 0)) w.heap.size 0 none 0 0 := (hz1'.setN 0).setE none 0 0
    have hCS : Cur ((w1.setCell ⟨w.heap.size, 0, none⟩ (.int .i64 0)).setCell ⟨w.heap.size, 1, none⟩ (.slice none 0 0)) R a n cap := hC1.keep (hbs.block R hRl)
    have HF := Lib.hid (fun (wF : World) (hC3 : Cur wF R a n cap) (HW3 : Win R (R + 1) w wF) => (show RetGD R a n cap w (.returned (.agg #[.int .i64 0, .slice none 0 0])) wF from
      ⟨⟨0, none, 0, 0, []⟩, rfl, ⟨⟨rfl, World.ownsRow_nil _ _ _ _, fun g hg => by simp [Value.ownBlock] at hg, Nat.le_refl _, Nat.zero_le _⟩, Nat.le_refl _⟩, ⟨by simp, by simp⟩, by simp, (fun e he => by simp at he), hC3, HW3⟩))
    have hzF := hzS.below ((Below.refl _ _).alloc (Nat.le_refl _) (.cells #[.int .i64 0, .slice none 0 0] 36))
    have HFF := Lib.hid (HF.out _ (hCS.below ((Below.refl _ _).alloc (Nat.le_refl _) (.cells #[.int .i64 0, .slice none 0 0] 36))) ((HW1.then_below hbs).trans (Win.of_below ((Below.refl _ _).alloc (Nat.le_refl _) (.cells #[.int .i64 0, .slice none 0 0] 36)))))
    obtain ⟨g0, g1, g2, g3⟩ := hg
    obtain ⟨z0, z1, z2, z3⟩ := hz1'
    obtain ⟨y0, y1, y2, y3⟩ := hzF
    clear hbs hzS hCS
    go_wp2
    refine bodyPost_ret (v := .agg #[.int .i64 0, .slice none 0 0]) (by simp [results, Tryd.results59, go_sem, y0, y1]) rfl ?_
    exact HFF.out
  · have hN1 : (x == 0) = false := by simp; omega
    obtain ⟨N, rfl⟩ := Int.eq_ofNat_of_zero_le hx0
    have hN0 : 0 < N := by omega
    have hb2 := hb0.trans (HW2.below hRw hb0.size)
    obtain ⟨G, hG⟩ : ∃ G, G = w1.heap.size := ⟨_, rfl⟩
    have HG := Lib.hid hG
    obtain ⟨g0, g1, g2, g3⟩ := id hg
    go_wp2_with fail
    refine (l01Below_any R a n cap zs 14 (by omega) w0 _ h hb2 hRw hC2 hn).mono ?_
    rintro e w3 ⟨mm, rfl, hm0, _, hm1, hC3, hW3⟩
    have hm2 := hm1 (by omega)
    obtain ⟨M, rfl⟩ := Int.eq_ofNat_of_zero_le hm0
    have hI : GDInv R a n cap w w3 w1.heap.size N 0 none 0 [] := ⟨hg.win hW3 (Or.inr (by omega)), hz2'.win hW3 (Or.inr (by omega)), World.ownsRow_nil _ _ _ _, rfl, (fun e he => by simp at he), hC3, HW2.trans hW3, hzl, hRl⟩
    have HI0 := Lib.hid hI
    clear hI hg g0 g1 g2 g3 hz2' hC2 hC3 hW3 hm1 hb2 hz1' hC1
    rw [← hG] at *
    simp only
    go_wp2
    go_loopw [4] (fun i wr => ∃ (k : Nat) (A : Option Addr) (C : Nat) (ys : List EdgeR), k ≤ M ∧ i = .int .i64 ((M - k : Nat) : Int) ∧ Hid (GDInv R a n cap w wr G N k A C ys)) (fun i _ => (intOf i).toNat)
    case atStart => exact ⟨0, none, 0, [], Nat.zero_le _, rfl, HI0⟩
    case round =>
      obtain ⟨k, A, C, ys, hk, rfl, HI⟩ := hrel
      clear HI0
      by_cases hlt : k < M
      · have hki : (0 : Int) < ((M - k : Nat) : Int) := by omega
        have hgl := HI.out.g.lt
        have hS0 : wr.drew.cell? ⟨G, 0, none⟩ = some (.int .i64 N) ∧ Cur wr.drew R a n cap ∧ Win R (R + 1) w wr.drew := ⟨HI.out.g.c0, HI.out.cur.below ((Below.refl _ _).drew), HI.out.win.then_below ((Below.refl _ _).drew)⟩
        have l0 := HI.out.g.c1
        go_wp2_with fail
        refine wp_region_held_drew (S := fun w' => w'.cell? ⟨G, 0, none⟩ = some (.int .i64 N) ∧ Cur w' R a n cap ∧ Win R (R + 1) w w') (by kernel_rfl) hS0 (fun hHeld => ?_)
        refine wpAnyH_take (i := 0) (v := ?vq1) rfl (by kernel_rfl) (by kernel_rfl) (by kernel_rfl) (fun _ _ _ h => h) (Or.inl ⟨by rfl, ?hq1⟩) (by assumption) ?rq1
        case hq1 => intro w hSw; (try dsimp only at hSw); go_simp <;> with_reducible rfl
        try simp only [Act.put]
        refine wpAnyH_take (i := 2) (v := ?vq2) rfl (by kernel_rfl) (by kernel_rfl) (by kernel_rfl) (fun _ _ _ h => h) (Or.inl ⟨by rfl, ?hq2⟩) (by assumption) ?rq2
        case hq2 => intro w hSw; (try dsimp only at hSw); go_simp <;> with_reducible rfl
        try simp only [Act.put]
        refine wpAnyH_take (i := 3) (v := ?vq3) rfl (by kernel_rfl) (by kernel_rfl) (by kernel_rfl) (fun _ _ _ h => h) (Or.inl ⟨by rfl, ?hq3⟩) (by assumption) ?rq3
        case hq3 => intro w hSw; (try dsimp only at hSw); go_simp <;> with_reducible rfl
        try simp only [Act.put]
        refine wpAnyH_take (i := 4) (v := ?vq4) rfl (by kernel_rfl) (by kernel_rfl) (by kernel_rfl) (fun _ _ _ h => h) (Or.inl ⟨by rfl, ?hq4⟩) (by assumption) ?rq4
        case hq4 => intro w hSw; (try dsimp only at hSw); go_simp <;> with_reducible rfl
        try simp only [Act.put]
        refine wpAnyH_take (i := 6) (v := ?vq5) rfl (by kernel_rfl) (by kernel_rfl) (by kernel_rfl) (fun _ _ _ h => h) (Or.inl ⟨by rfl, ?hq5⟩) (by assumption) ?rq5
        case hq5 => intro w hSw; (try dsimp only at hSw); go_simp <;> with_reducible rfl
        try simp only [Act.put]
        refine wpAnyH_take (i := 7) (v := ?vq6) rfl (by kernel_rfl) (by kernel_rfl) (by kernel_rfl) (fun _ _ _ h => h) (Or.inl ⟨by rfl, ?hq6⟩) (by assumption) ?rq6
        case hq6 => intro w hSw; (try dsimp only at hSw); go_simp <;> with_reducible rfl
        try simp only [Act.put]
        refine wpAnyH_take (i := 8) (v := ?vq7) rfl (by kernel_rfl) (by kernel_rfl) (by kernel_rfl) (fun _ _ _ h => h) (Or.inl ⟨by rfl, ?hq7⟩) (by assumption) ?rq7
        case hq7 => intro w hSw; (try dsimp only at hSw); go_simp <;> with_reducible rfl
        try simp only [Act.put]
        refine wpAnyH_take (i := 10) (v := ?vq8) rfl (by kernel_rfl) (by kernel_rfl) (by kernel_rfl) (fun _ _ _ h => h) (Or.inl ⟨by rfl, ?hq8⟩) (by assumption) ?rq8
        case hq8 => intro w hSw; (try dsimp only at hSw); go_simp <;> with_reducible rfl
        try simp only [Act.put]
        refine wpAnyH_ready (rs := [1, 5]) (by kernel_rfl) (by simp) ?_
        refine AllReadyH.cons rfl (fun K hK => ?q9) (AllReadyH.cons rfl (fun K hK => ?q10) AllReadyH.nil)
        case' q9 =>
          go_simp
          refine hK.out _ _ hHeld (fun hHeld => ?_)
          clear hK K
          try simp only [Act.put, List.setIfInBounds_toArray, List.set_cons_zero, List.set_cons_succ]
          refine wpAnyH_ready (rs := [5]) (by kernel_rfl) (by simp) ?_
          refine AllReadyH.cons rfl (fun K hK => ?_) AllReadyH.nil
          go_simp
          refine (l01Below_any R a n cap zs (N : Int) (by omega) w0 _ h (hb0.trans (hHeld.2.2.below hRw hb0.size)) hRw hHeld.2.1 hn).mono ?_
          rintro e wa ⟨xa, rfl, xa0, _, xa1, hCa, hWa⟩
          have xa2 := xa1 (by omega)
          have HIa := HI.out.win2 ((Win.of_below ((Below.refl wr.heap.size wr).drew)).trans hWa) hCa
          have la := HIa.g.c1
          have hSa : wa.cell? ⟨G, 0, none⟩ = some (.int .i64 N) ∧ Cur wa R a n cap ∧ Win R (R + 1) w wa := ⟨HIa.g.c0, hCa, HIa.win⟩
          clear xa1
          refine hK.out _ _ hSa (fun hHeld => ?_)
          clear hK K
          try simp only [Act.put, List.setIfInBounds_toArray, List.set_cons_zero, List.set_cons_succ]
          refine wpAnyH_ready (rs := [9]) (by kernel_rfl) (by simp) ?_
          refine AllReadyH.cons rfl (fun K hK => ?_) AllReadyH.nil
          go_simp
          refine (l01Below_any R a n cap zs (N : Int) (by omega) w0 _ h (hb0.trans (hHeld.2.2.below hRw hb0.size)) hRw hHeld.2.1 hn).mono ?_
          rintro e wb ⟨xb, rfl, xb0, _, xb1, hCb, hWb⟩
          have xb2 := xb1 (by omega)
          have HIb := HIa.win2 (hWb) hCb
          have lb := HIb.g.c1
          have hSb : wb.cell? ⟨G, 0, none⟩ = some (.int .i64 N) ∧ Cur wb R a n cap ∧ Win R (R + 1) w wb := ⟨HIb.g.c0, hCb, HIb.win⟩
          clear xb1
          refine hK.out _ _ hSb (fun hHeld => ?_)
          clear hK K
          try simp only [Act.put, List.setIfInBounds_toArray, List.set_cons_zero, List.set_cons_succ]
          refine wpAnyH_ready (rs := [11]) (by kernel_rfl) (by simp) ?_
          refine AllReadyH.cons rfl (fun K hK => ?_) AllReadyH.nil
          go_simp
          refine (l01Below_any R a n cap zs 8 (by omega) w0 _ h (hb0.trans (hHeld.2.2.below hRw hb0.size)) hRw hHeld.2.1 hn).mono ?_
          rintro e wc ⟨xc, rfl, xc0, _, xc1, hCc, hWc⟩
          have xc2 := xc1 (by omega)
          have HIc := HIb.win2 (hWc) hCc
          have lc := HIc.g.c1
          have hSc : wc.cell? ⟨G, 0, none⟩ = some (.int .i64 N) ∧ Cur wc R a n cap ∧ Win R (R + 1) w wc := ⟨HIc.g.c0, hCc, HIc.win⟩
          clear xc1
          refine hK.out _ _ hSc (fun hHeld => ?_)
          clear hK K
          try simp only [Act.put, List.setIfInBounds_toArray, List.set_cons_zero, List.set_cons_succ]
          refine wpAnyH_take (i := 12) (v := ?vq11) rfl (by kernel_rfl) (by kernel_rfl) (by kernel_rfl) (fun _ _ _ h => h) (Or.inl ⟨by rfl, ?hq11⟩) (by assumption) ?rq11
          case hq11 => intro w hSw; (try dsimp only at hSw); go_simp <;> with_reducible rfl
          try simp only [Act.put]
          refine wpAnyH_ready (rs := [13]) (by kernel_rfl) (by simp) ?_
          refine AllReadyH.cons rfl (fun K hK => ?_) AllReadyH.nil
          have hal := (Below.refl wc.heap.size wc).alloc (Nat.le_refl _) (.cells #[.int .i64 xa, .int .i64 xb, .int .i64 xc] 50)
          have HIl := Lib.hid (HIc.later hal)
          have ll := HIl.out.g.c1
          have hSl : (wc.alloc (.cells #[.int .i64 xa, .int .i64 xb, .int .i64 xc] 50)).cell? ⟨G, 0, none⟩ = some (.int .i64 N) ∧ Cur (wc.alloc (.cells #[.int .i64 xa, .int .i64 xb, .int .i64 xc] 50)) R a n cap ∧ Win R (R + 1) w (wc.alloc (.cells #[.int .i64 xa, .int .i64 xb, .int .i64 xc] 50)) := ⟨HIl.out.g.c0, HIl.out.cur, HIl.out.win⟩
          go_simp
          refine hK.out _ _ hSl (fun hHeld => ?_)
          clear hK K
          try simp only [Act.put, List.setIfInBounds_toArray, List.set_cons_zero, List.set_cons_succ]
          refine wpAnyH_ready (rs := [14]) (by kernel_rfl) (by simp) ?_
          refine AllReadyH.cons rfl (fun K hK => ?_) AllReadyH.nil
          refine step_append_lies _ (by rfl) _ _ _ (by rfl) (G + 1) 50 i0 (.agg #[.int .i64 0, .int .i64 0, .int .i64 0]) 3 24 Tryd.underlying34 hi hz0 hz1 hz2 rfl (by decide) (.slice A k C) k (ys.flatMap encEdge) (by rfl) (HIl.out.own) ⟨wc.heap.size, 0, none⟩ 1 1 (encEdge ⟨xa, xb, xc⟩) (by rfl) (by rfl) (World.news_of_block (heap_alloc_new wc (.cells #[.int .i64 xa, .int .i64 xb, .int .i64 xc] 50))) (one_edge _) (by decide) (by unfold maxLen; omega) (by omega) (Nat.succ_le_of_lt HIl.out.g.lt) _ rfl ?_
          rintro g9 C9 w9 ho9 hg9 hor9 hlt9
          have hG9 := HIl.out.gk hg9
          have hS9 : w9.cell? ⟨G, 0, none⟩ = some (.int .i64 N) ∧ Cur w9 R a n cap ∧ Win R (R + 1) w w9 := ⟨hG9.c0, HIl.out.ck hg9, HIl.out.wk hg9⟩
          have HP := Lib.hid (HIl.out.put hg9 ho9 (xs := ⟨xa, xb, xc⟩) ⟨⟨xa0, xa2⟩, ⟨xb0, xb2⟩, xc0, xc2⟩)
          have hSs : (w9.setCell ⟨G, 1, none⟩ (.slice (some ⟨g9, 0, none⟩) (k + 1) C9)).cell? ⟨G, 0, none⟩ = some (.int .i64 N) ∧ Cur (w9.setCell ⟨G, 1, none⟩ (.slice (some ⟨g9, 0, none⟩) (k + 1) C9)) R a n cap ∧ Win R (R + 1) w (w9.setCell ⟨G, 1, none⟩ (.slice (some ⟨g9, 0, none⟩) (k + 1) C9)) := ⟨HP.out.g.c0, HP.out.cur, HP.out.win⟩
          obtain ⟨q0, q1, q2, q3⟩ := hG9
          refine hK.out _ _ hS9 (fun hHeld => ?_)
          clear hK K
          try simp only [Act.put, List.setIfInBounds_toArray]
          refine wpAnyH_take (i := 15) (v := ?vq12) rfl (by kernel_rfl) (by kernel_rfl) (by kernel_rfl) (fun _ _ _ h => h) (Or.inl ⟨by rfl, ?hq12⟩) (by assumption) ?rq12
          case hq12 => intro w hSw; (try dsimp only at hSw); go_simp <;> with_reducible rfl
          try simp only [Act.put]
          refine wpAnyH_ready (rs := [16]) (by kernel_rfl) (by simp) ?_
          refine AllReadyH.cons rfl (fun K hK => ?_) AllReadyH.nil
          go_simp
          refine hK.out _ _ hSs (fun hHeld => ?_)
          clear hK K
          try simp only [Act.put, List.setIfInBounds_toArray, List.set_cons_zero, List.set_cons_succ]
          refine wpAnyH_done (by kernel_rfl) ?_ _
        case' q10 =>
          go_simp
          refine (l01Below_any R a n cap zs (N : Int) (by omega) w0 _ h (hb0.trans (hHeld.2.2.below hRw hb0.size)) hRw hHeld.2.1 hn).mono ?_
          rintro e wa ⟨xa, rfl, xa0, _, xa1, hCa, hWa⟩
          have xa2 := xa1 (by omega)
          have HIa := HI.out.win2 ((Win.of_below ((Below.refl wr.heap.size wr).drew)).trans hWa) hCa
          have la := HIa.g.c1
          have hSa : wa.cell? ⟨G, 0, none⟩ = some (.int .i64 N) ∧ Cur wa R a n cap ∧ Win R (R + 1) w wa := ⟨HIa.g.c0, hCa, HIa.win⟩
          clear xa1
          refine hK.out _ _ hSa (fun hHeld => ?_)
          clear hK K
          try simp only [Act.put, List.setIfInBounds_toArray, List.set_cons_zero, List.set_cons_succ]
          refine wpAnyH_ready (rs := [1, 9]) (by kernel_rfl) (by simp) ?_
          refine AllReadyH.cons rfl (fun K hK => ?q13) (AllReadyH.cons rfl (fun K hK => ?q14) AllReadyH.nil)
          case' q13 =>
            go_simp
            refine hK.out _ _ hHeld (fun hHeld => ?_)
            clear hK K
            try simp only [Act.put, List.setIfInBounds_toArray, List.set_cons_zero, List.set_cons_succ]
            refine wpAnyH_ready (rs := [9]) (by kernel_rfl) (by simp) ?_
            refine AllReadyH.cons rfl (fun K hK => ?_) AllReadyH.nil
            go_simp
            refine (l01Below_any R a n cap zs (N : Int) (by omega) w0 _ h (hb0.trans (hHeld.2.2.below hRw hb0.size)) hRw hHeld.2.1 hn).mono ?_
            rintro e wb ⟨xb, rfl, xb0, _, xb1, hCb, hWb⟩
            have xb2 := xb1 (by omega)
            have HIb := HIa.win2 (hWb) hCb
            have lb := HIb.g.c1
            have hSb : wb.cell? ⟨G, 0, none⟩ = some (.int .i64 N) ∧ Cur wb R a n cap ∧ Win R (R + 1) w wb := ⟨HIb.g.c0, hCb, HIb.win⟩
            clear xb1
            refine hK.out _ _ hSb (fun hHeld => ?_)
            clear hK K
            try simp only [Act.put, List.setIfInBounds_toArray, List.set_cons_zero, List.set_cons_succ]
            refine wpAnyH_ready (rs := [11]) (by kernel_rfl) (by simp) ?_
            refine AllReadyH.cons rfl (fun K hK => ?_) AllReadyH.nil
            go_simp
            refine (l01Below_any R a n cap zs 8 (by omega) w0 _ h (hb0.trans (hHeld.2.2.below hRw hb0.size)) hRw hHeld.2.1 hn).mono ?_
            rintro e wc ⟨xc, rfl, xc0, _, xc1, hCc, hWc⟩
            have xc2 := xc1 (by omega)
            have HIc := HIb.win2 (hWc) hCc
            have lc := HIc.g.c1
            have hSc : wc.cell? ⟨G, 0, none⟩ = some (.int .i64 N) ∧ Cur wc R a n cap ∧ Win R (R + 1) w wc := ⟨HIc.g.c0, hCc, HIc.win⟩
            clear xc1
            refine hK.out _ _ hSc (fun hHeld => ?_)
            clear hK K
            try simp only [Act.put, List.setIfInBounds_toArray, List.set_cons_zero, List.set_cons_succ]
            refine wpAnyH_take (i := 12) (v := ?vq15) rfl (by kernel_rfl) (by kernel_rfl) (by kernel_rfl) (fun _ _ _ h => h) (Or.inl ⟨by rfl, ?hq15⟩) (by assumption) ?rq15
            case hq15 => intro w hSw; (try dsimp only at hSw); go_simp <;> with_reducible rfl
            try simp only [Act.put]
            refine wpAnyH_ready (rs := [13]) (by kernel_rfl) (by simp) ?_
            refine AllReadyH.cons rfl (fun K hK => ?_) AllReadyH.nil
            have hal := (Below.refl wc.heap.size wc).alloc (Nat.le_refl _) (.cells #[.int .i64 xa, .int .i64 xb, .int .i64 xc] 50)
            have HIl := Lib.hid (HIc.later hal)
            have ll := HIl.out.g.c1
            have hSl : (wc.alloc (.cells #[.int .i64 xa, .int .i64 xb, .int .i64 xc] 50)).cell? ⟨G, 0, none⟩ = some (.int .i64 N) ∧ Cur (wc.alloc (.cells #[.int .i64 xa, .int .i64 xb, .int .i64 xc] 50)) R a n cap ∧ Win R (R + 1) w (wc.alloc (.cells #[.int .i64 xa, .int .i64 xb, .int .i64 xc] 50)) := ⟨HIl.out.g.c0, HIl.out.cur, HIl.out.win⟩
            go_simp
            refine hK.out _ _ hSl (fun hHeld => ?_)
            clear hK K
            try simp only [Act.put, List.setIfInBounds_toArray, List.set_cons_zero, List.set_cons_succ]
            refine wpAnyH_ready (rs := [14]) (by kernel_rfl) (by simp) ?_
            refine AllReadyH.cons rfl (fun K hK => ?_) AllReadyH.nil
            refine step_append_lies _ (by rfl) _ _ _ (by rfl) (G + 1) 50 i0 (.agg #[.int .i64 0, .int .i64 0, .int .i64 0]) 3 24 Tryd.underlying34 hi hz0 hz1 hz2 rfl (by decide) (.slice A k C) k (ys.flatMap encEdge) (by rfl) (HIl.out.own) ⟨wc.heap.size, 0, none⟩ 1 1 (encEdge ⟨xa, xb, xc⟩) (by rfl) (by rfl) (World.news_of_block (heap_alloc_new wc (.cells #[.int .i64 xa, .int .i64 xb, .int .i64 xc] 50))) (one_edge _) (by decide) (by unfold maxLen; omega) (by omega) (Nat.succ_le_of_lt HIl.out.g.lt) _ rfl ?_
            rintro g9 C9 w9 ho9 hg9 hor9 hlt9
            have hG9 := HIl.out.gk hg9
            have hS9 : w9.cell? ⟨G, 0, none⟩ = some (.int .i64 N) ∧ Cur w9 R a n cap ∧ Win R (R + 1) w w9 := ⟨hG9.c0, HIl.out.ck hg9, HIl.out.wk hg9⟩
            have HP := Lib.hid (HIl.out.put hg9 ho9 (xs := ⟨xa, xb, xc⟩) ⟨⟨xa0, xa2⟩, ⟨xb0, xb2⟩, xc0, xc2⟩)
            have hSs : (w9.setCell ⟨G, 1, none⟩ (.slice (some ⟨g9, 0, none⟩) (k + 1) C9)).cell? ⟨G, 0, none⟩ = some (.int .i64 N) ∧ Cur (w9.setCell ⟨G, 1, none⟩ (.slice (some ⟨g9, 0, none⟩) (k + 1) C9)) R a n cap ∧ Win R (R + 1) w (w9.setCell ⟨G, 1, none⟩ (.slice (some ⟨g9, 0, none⟩) (k + 1) C9)) := ⟨HP.out.g.c0, HP.out.cur, HP.out.win⟩
            obtain ⟨q0, q1, q2, q3⟩ := hG9
            refine hK.out _ _ hS9 (fun hHeld => ?_)
            clear hK K
            try simp only [Act.put, List.setIfInBounds_toArray]
            refine wpAnyH_take (i := 15) (v := ?vq16) rfl (by kernel_rfl) (by kernel_rfl) (by kernel_rfl) (fun _ _ _ h => h) (Or.inl ⟨by rfl, ?hq16⟩) (by assumption) ?rq16
            case hq16 => intro w hSw; (try dsimp only at hSw); go_simp <;> with_reducible rfl
            try simp only [Act.put]
            refine wpAnyH_ready (rs := [16]) (by kernel_rfl) (by simp) ?_
            refine AllReadyH.cons rfl (fun K hK => ?_) AllReadyH.nil
            go_simp
            refine hK.out _ _ hSs (fun hHeld => ?_)
            clear hK K
            try simp only [Act.put, List.setIfInBounds_toArray, List.set_cons_zero, List.set_cons_succ]
            refine wpAnyH_done (by kernel_rfl) ?_ _
          case' q14 =>
            go_simp
            refine (l01Below_any R a n cap zs (N : Int) (by omega) w0 _ h (hb0.trans (hHeld.2.2.below hRw hb0.size)) hRw hHeld.2.1 hn).mono ?_
            rintro e wb ⟨xb, rfl, xb0, _, xb1, hCb, hWb⟩
            have xb2 := xb1 (by omega)
            have HIb := HIa.win2 (hWb) hCb
            have lb := HIb.g.c1
            have hSb : wb.cell? ⟨G, 0, none⟩ = some (.int .i64 N) ∧ Cur wb R a n cap ∧ Win R (R + 1) w wb := ⟨HIb.g.c0, hCb, HIb.win⟩
            clear xb1
            refine hK.out _ _ hSb (fun hHeld => ?_)
            clear hK K
            try simp only [Act.put, List.setIfInBounds_toArray, List.set_cons_zero, List.set_cons_succ]
            refine wpAnyH_ready (rs := [1, 11]) (by kernel_rfl) (by simp) ?_
            refine AllReadyH.cons rfl (fun K hK => ?q17) (AllReadyH.cons rfl (fun K hK => ?q18) AllReadyH.nil)
            case' q17 =>
              go_simp
              refine hK.out _ _ hHeld (fun hHeld => ?_)
              clear hK K
              try simp only [Act.put, List.setIfInBounds_toArray, List.set_cons_zero, List.set_cons_succ]
              refine wpAnyH_ready (rs := [11]) (by kernel_rfl) (by simp) ?_
              refine AllReadyH.cons rfl (fun K hK => ?_) AllReadyH.nil
              go_simp
              refine (l01Below_any R a n cap zs 8 (by omega) w0 _ h (hb0.trans (hHeld.2.2.below hRw hb0.size)) hRw hHeld.2.1 hn).mono ?_
              rintro e wc ⟨xc, rfl, xc0, _, xc1, hCc, hWc⟩
              have xc2 := xc1 (by omega)
              have HIc := HIb.win2 (hWc) hCc
              have lc := HIc.g.c1
              have hSc : wc.cell? ⟨G, 0, none⟩ = some (.int .i64 N) ∧ Cur wc R a n cap ∧ Win R (R + 1) w wc := ⟨HIc.g.c0, hCc, HIc.win⟩
              clear xc1
              refine hK.out _ _ hSc (fun hHeld => ?_)
              clear hK K
              try simp only [Act.put, List.setIfInBounds_toArray, List.set_cons_zero, List.set_cons_succ]
              refine wpAnyH_take (i := 12) (v := ?vq19) rfl (by kernel_rfl) (by kernel_rfl) (by kernel_rfl) (fun _ _ _ h => h) (Or.inl ⟨by rfl, ?hq19⟩) (by assumption) ?rq19
              case hq19 => intro w hSw; (try dsimp only at hSw); go_simp <;> with_reducible rfl
              try simp only [Act.put]
              refine wpAnyH_ready (rs := [13]) (by kernel_rfl) (by simp) ?_
              refine AllReadyH.cons rfl (fun K hK => ?_) AllReadyH.nil
              have hal := (Below.refl wc.heap.size wc).alloc (Nat.le_refl _) (.cells #[.int .i64 xa, .int .i64 xb, .int .i64 xc] 50)
              have HIl := Lib.hid (HIc.later hal)
              have ll := HIl.out.g.c1
              have hSl : (wc.alloc (.cells #[.int .i64 xa, .int .i64 xb, .int .i64 xc] 50)).cell? ⟨G, 0, none⟩ = some (.int .i64 N) ∧ Cur (wc.alloc (.cells #[.int .i64 xa, .int .i64 xb, .int .i64 xc] 50)) R a n cap ∧ Win R (R + 1) w (wc.alloc (.cells #[.int .i64 xa, .int .i64 xb, .int .i64 xc] 50)) := ⟨HIl.out.g.c0, HIl.out.cur, HIl.out.win⟩
              go_simp
              refine hK.out _ _ hSl (fun hHeld => ?_)
              clear hK K
              try simp only [Act.put, List.setIfInBounds_toArray, List.set_cons_zero, List.set_cons_succ]
              refine wpAnyH_ready (rs := [14]) (by kernel_rfl) (by simp) ?_
              refine AllReadyH.cons rfl (fun K hK => ?_) AllReadyH.nil
              refine step_append_lies _ (by rfl) _ _ _ (by rfl) (G + 1) 50 i0 (.agg #[.int .i64 0, .int .i64 0, .int .i64 0]) 3 24 Tryd.underlying34 hi hz0 hz1 hz2 rfl (by decide) (.slice A k C) k (ys.flatMap encEdge) (by rfl) (HIl.out.own) ⟨wc.heap.size, 0, none⟩ 1 1 (encEdge ⟨xa, xb, xc⟩) (by rfl) (by rfl) (World.news_of_block (heap_alloc_new wc (.cells #[.int .i64 xa, .int .i64 xb, .int .i64 xc] 50))) (one_edge _) (by decide) (by unfold maxLen; omega) (by omega) (Nat.succ_le_of_lt HIl.out.g.lt) _ rfl ?_
              rintro g9 C9 w9 ho9 hg9 hor9 hlt9
              have hG9 := HIl.out.gk hg9
              have hS9 : w9.cell? ⟨G, 0, none⟩ = some (.int .i64 N) ∧ Cur w9 R a n cap ∧ Win R (R + 1) w w9 := ⟨hG9.c0, HIl.out.ck hg9, HIl.out.wk hg9⟩
              have HP := Lib.hid (HIl.out.put hg9 ho9 (xs := ⟨xa, xb, xc⟩) ⟨⟨xa0, xa2⟩, ⟨xb0, xb2⟩, xc0, xc2⟩)
              have hSs : (w9.setCell ⟨G, 1, none⟩ (.slice (some ⟨g9, 0, none⟩) (k + 1) C9)).cell? ⟨G, 0, none⟩ = some (.int .i64 N) ∧ Cur (w9.setCell ⟨G, 1, none⟩ (.slice (some ⟨g9, 0, none⟩) (k + 1) C9)) R a n cap ∧ Win R (R + 1) w (w9.setCell ⟨G, 1, none⟩ (.slice (some ⟨g9, 0, none⟩) (k + 1) C9)) := ⟨HP.out.g.c0, HP.out.cur, HP.out.win⟩
              obtain ⟨q0, q1, q2, q3⟩ := hG9
              refine hK.out _ _ hS9 (fun hHeld => ?_)
              clear hK K
              try simp only [Act.put, List.setIfInBounds_toArray]
              refine wpAnyH_take (i := 15) (v := ?vq20) rfl (by kernel_rfl) (by kernel_rfl) (by kernel_rfl) (fun _ _ _ h => h) (Or.inl ⟨by rfl, ?hq20⟩) (by assumption) ?rq20
              case hq20 => intro w hSw; (try dsimp only at hSw); go_simp <;> with_reducible rfl
              try simp only [Act.put]
              refine wpAnyH_ready (rs := [16]) (by kernel_rfl) (by simp) ?_
              refine AllReadyH.cons rfl (fun K hK => ?_) AllReadyH.nil
              go_simp
              refine hK.out _ _ hSs (fun hHeld => ?_)
              clear hK K
              try simp only [Act.put, List.setIfInBounds_toArray, List.set_cons_zero, List.set_cons_succ]
              refine wpAnyH_done (by kernel_rfl) ?_ _
            case' q18 =>
              go_simp
              refine (l01Below_any R a n cap zs 8 (by omega) w0 _ h (hb0.trans (hHeld.2.2.below hRw hb0.size)) hRw hHeld.2.1 hn).mono ?_
              rintro e wc ⟨xc, rfl, xc0, _, xc1, hCc, hWc⟩
              have xc2 := xc1 (by omega)
              have HIc := HIb.win2 (hWc) hCc
              have lc := HIc.g.c1
              have hSc : wc.cell? ⟨G, 0, none⟩ = some (.int .i64 N) ∧ Cur wc R a n cap ∧ Win R (R + 1) w wc := ⟨HIc.g.c0, hCc, HIc.win⟩
              clear xc1
              refine hK.out _ _ hSc (fun hHeld => ?_)
              clear hK K
              try simp only [Act.put, List.setIfInBounds_toArray, List.set_cons_zero, List.set_cons_succ]
              refine wpAnyH_take (i := 12) (v := ?vq21) rfl (by kernel_rfl) (by kernel_rfl) (by kernel_rfl) (fun _ _ _ h => h) (Or.inl ⟨by rfl, ?hq21⟩) (by assumption) ?rq21
              case hq21 => intro w hSw; (try dsimp only at hSw); go_simp <;> with_reducible rfl
              try simp only [Act.put]
              refine wpAnyH_ready (rs := [1, 13]) (by kernel_rfl) (by simp) ?_
              refine AllReadyH.cons rfl (fun K hK => ?q22) (AllReadyH.cons rfl (fun K hK => ?q23) AllReadyH.nil)
              case' q22 =>
                go_simp
                refine hK.out _ _ hHeld (fun hHeld => ?_)
                clear hK K
                try simp only [Act.put, List.setIfInBounds_toArray, List.set_cons_zero, List.set_cons_succ]
                refine wpAnyH_ready (rs := [13]) (by kernel_rfl) (by simp) ?_
                refine AllReadyH.cons rfl (fun K hK => ?_) AllReadyH.nil
                have hal := (Below.refl wc.heap.size wc).alloc (Nat.le_refl _) (.cells #[.int .i64 xa, .int .i64 xb, .int .i64 xc] 50)
                have HIl := Lib.hid (HIc.later hal)
                have ll := HIl.out.g.c1
                have hSl : (wc.alloc (.cells #[.int .i64 xa, .int .i64 xb, .int .i64 xc] 50)).cell? ⟨G, 0, none⟩ = some (.int .i64 N) ∧ Cur (wc.alloc (.cells #[.int .i64 xa, .int .i64 xb, .int .i64 xc] 50)) R a n cap ∧ Win R (R + 1) w (wc.alloc (.cells #[.int .i64 xa, .int .i64 xb, .int .i64 xc] 50)) := ⟨HIl.out.g.c0, HIl.out.cur, HIl.out.win⟩
                go_simp
                refine hK.out _ _ hSl (fun hHeld => ?_)
                clear hK K
                try simp only [Act.put, List.setIfInBounds_toArray, List.set_cons_zero, List.set_cons_succ]
                refine wpAnyH_ready (rs := [14]) (by kernel_rfl) (by simp) ?_
                refine AllReadyH.cons rfl (fun K hK => ?_) AllReadyH.nil
                refine step_append_lies _ (by rfl) _ _ _ (by rfl) (G + 1) 50 i0 (.agg #[.int .i64 0, .int .i64 0, .int .i64 0]) 3 24 Tryd.underlying34 hi hz0 hz1 hz2 rfl (by decide) (.slice A k C) k (ys.flatMap encEdge) (by rfl) (HIl.out.own) ⟨wc.heap.size, 0, none⟩ 1 1 (encEdge ⟨xa, xb, xc⟩) (by rfl) (by rfl) (World.news_of_block (heap_alloc_new wc (.cells #[.int .i64 xa, .int .i64 xb, .int .i64 xc] 50))) (one_edge _) (by decide) (by unfold maxLen; omega) (by omega) (Nat.succ_le_of_lt HIl.out.g.lt) _ rfl ?_
                rintro g9 C9 w9 ho9 hg9 hor9 hlt9
                have hG9 := HIl.out.gk hg9
                have hS9 : w9.cell? ⟨G, 0, none⟩ = some (.int .i64 N) ∧ Cur w9 R a n cap ∧ Win R (R + 1) w w9 := ⟨hG9.c0, HIl.out.ck hg9, HIl.out.wk hg9⟩
                have HP := Lib.hid (HIl.out.put hg9 ho9 (xs := ⟨xa, xb, xc⟩) ⟨⟨xa0, xa2⟩, ⟨xb0, xb2⟩, xc0, xc2⟩)
                have hSs : (w9.setCell ⟨G, 1, none⟩ (.slice (some ⟨g9, 0, none⟩) (k + 1) C9)).cell? ⟨G, 0, none⟩ = some (.int .i64 N) ∧ Cur (w9.setCell ⟨G, 1, none⟩ (.slice (some ⟨g9, 0, none⟩) (k + 1) C9)) R a n cap ∧ Win R (R + 1) w (w9.setCell ⟨G, 1, none⟩ (.slice (some ⟨g9, 0, none⟩) (k + 1) C9)) := ⟨HP.out.g.c0, HP.out.cur, HP.out.win⟩
                obtain ⟨q0, q1, q2, q3⟩ := hG9
                refine hK.out _ _ hS9 (fun hHeld => ?_)
                clear hK K
                try simp only [Act.put, List.setIfInBounds_toArray]
                refine wpAnyH_take (i := 15) (v := ?vq24) rfl (by kernel_rfl) (by kernel_rfl) (by kernel_rfl) (fun _ _ _ h => h) (Or.inl ⟨by rfl, ?hq24⟩) (by assumption) ?rq24
                case hq24 => intro w hSw; (try dsimp only at hSw); go_simp <;> with_reducible rfl
                try simp only [Act.put]
                refine wpAnyH_ready (rs := [16]) (by kernel_rfl) (by simp) ?_
                refine AllReadyH.cons rfl (fun K hK => ?_) AllReadyH.nil
                go_simp
                refine hK.out _ _ hSs (fun hHeld => ?_)
                clear hK K
                try simp only [Act.put, List.setIfInBounds_toArray, List.set_cons_zero, List.set_cons_succ]
                refine wpAnyH_done (by kernel_rfl) ?_ _
              case' q23 =>
                have hal := (Below.refl wc.heap.size wc).alloc (Nat.le_refl _) (.cells #[.int .i64 xa, .int .i64 xb, .int .i64 xc] 50)
                have HIl := Lib.hid (HIc.later hal)
                have ll := HIl.out.g.c1
                have hSl : (wc.alloc (.cells #[.int .i64 xa, .int .i64 xb, .int .i64 xc] 50)).cell? ⟨G, 0, none⟩ = some (.int .i64 N) ∧ Cur (wc.alloc (.cells #[.int .i64 xa, .int .i64 xb, .int .i64 xc] 50)) R a n cap ∧ Win R (R + 1) w (wc.alloc (.cells #[.int .i64 xa, .int .i64 xb, .int .i64 xc] 50)) := ⟨HIl.out.g.c0, HIl.out.cur, HIl.out.win⟩
                go_simp
                refine hK.out _ _ hSl (fun hHeld => ?_)
                clear hK K
                try simp only [Act.put, List.setIfInBounds_toArray, List.set_cons_zero, List.set_cons_succ]
                refine wpAnyH_ready (rs := [1]) (by kernel_rfl) (by simp) ?_
                refine AllReadyH.cons rfl (fun K hK => ?_) AllReadyH.nil
                go_simp
                refine hK.out _ _ hHeld (fun hHeld => ?_)
                clear hK K
                try simp only [Act.put, List.setIfInBounds_toArray, List.set_cons_zero, List.set_cons_succ]
                refine wpAnyH_ready (rs := [14]) (by kernel_rfl) (by simp) ?_
                refine AllReadyH.cons rfl (fun K hK => ?_) AllReadyH.nil
                refine step_append_lies _ (by rfl) _ _ _ (by rfl) (G + 1) 50 i0 (.agg #[.int .i64 0, .int .i64 0, .int .i64 0]) 3 24 Tryd.underlying34 hi hz0 hz1 hz2 rfl (by decide) (.slice A k C) k (ys.flatMap encEdge) (by rfl) (HIl.out.own) ⟨wc.heap.size, 0, none⟩ 1 1 (encEdge ⟨xa, xb, xc⟩) (by rfl) (by rfl) (World.news_of_block (heap_alloc_new wc (.cells #[.int .i64 xa, .int .i64 xb, .int .i64 xc] 50))) (one_edge _) (by decide) (by unfold maxLen; omega) (by omega) (Nat.succ_le_of_lt HIl.out.g.lt) _ rfl ?_
                rintro g9 C9 w9 ho9 hg9 hor9 hlt9
                have hG9 := HIl.out.gk hg9
                have hS9 : w9.cell? ⟨G, 0, none⟩ = some (.int .i64 N) ∧ Cur w9 R a n cap ∧ Win R (R + 1) w w9 := ⟨hG9.c0, HIl.out.ck hg9, HIl.out.wk hg9⟩
                have HP := Lib.hid (HIl.out.put hg9 ho9 (xs := ⟨xa, xb, xc⟩) ⟨⟨xa0, xa2⟩, ⟨xb0, xb2⟩, xc0, xc2⟩)
                have hSs : (w9.setCell ⟨G, 1, none⟩ (.slice (some ⟨g9, 0, none⟩) (k + 1) C9)).cell? ⟨G, 0, none⟩ = some (.int .i64 N) ∧ Cur (w9.setCell ⟨G, 1, none⟩ (.slice (some ⟨g9, 0, none⟩) (k + 1) C9)) R a n cap ∧ Win R (R + 1) w (w9.setCell ⟨G, 1, none⟩ (.slice (some ⟨g9, 0, none⟩) (k + 1) C9)) := ⟨HP.out.g.c0, HP.out.cur, HP.out.win⟩
                obtain ⟨q0, q1, q2, q3⟩ := hG9
                refine hK.out _ _ hS9 (fun hHeld => ?_)
                clear hK K
                try simp only [Act.put, List.setIfInBounds_toArray]
                refine wpAnyH_take (i := 15) (v := ?vq25) rfl (by kernel_rfl) (by kernel_rfl) (by kernel_rfl) (fun _ _ _ h => h) (Or.inl ⟨by rfl, ?hq25⟩) (by assumption) ?rq25
                case hq25 => intro w hSw; (try dsimp only at hSw); go_simp <;> with_reducible rfl
                try simp only [Act.put]
                refine wpAnyH_ready (rs := [16]) (by kernel_rfl) (by simp) ?_
                refine AllReadyH.cons rfl (fun K hK => ?_) AllReadyH.nil
                go_simp
                refine hK.out _ _ hSs (fun hHeld => ?_)
                clear hK K
                try simp only [Act.put, List.setIfInBounds_toArray, List.set_cons_zero, List.set_cons_succ]
                refine wpAnyH_done (by kernel_rfl) ?_ _
        all_goals
          clear q0 q1 q2 q3 hS9 hSs ho9 hg9 hor9 hlt9 HIl
          have hin : wrap64 (((M - k : Nat) : Int) - 1) = ((M - (k + 1) : Nat) : Int) := by rw [IntWalk.wrap64_in _ ⟨by omega, by omega⟩]; omega
          have hin2 : ((M - k : Nat) : Int) - 1 = ((M - (k + 1) : Nat) : Int) := by omega
          go_wp2
          go_roundw
          case rel => exact ⟨k + 1, _, _, _, by omega, by first | rfl | (congr 1), HP⟩
          case measure => simp [intOf]; omega
      · obtain rfl : k = M := by omega
        have hki : ¬ (0 : Int) < ((k - k : Nat) : Int) := by omega
        have hzg := HI.out.zg
        have hgl := HI.out.g.lt
        have hbs : Below w.heap.size wr ((wr.setCell ⟨w.heap.size, 0, none⟩ (.int .i64 N)).setCell ⟨w.heap.size, 1, none⟩ (.slice A k C)) := ((Below.refl w.heap.size wr).setCell (p := ⟨w.heap.size, 0, none⟩) (Nat.le_refl _) _).setCell (p := ⟨w.heap.size, 1, none⟩) (Nat.le_refl _) _
        have hk0 : ∀ b, b ≠ w.heap.size → ((wr.setCell ⟨w.heap.size, 0, none⟩ (.int .i64 N)).setCell ⟨w.heap.size, 1, none⟩ (.slice A k C)).heap[b]? = wr.heap[b]? := fun b hb => by rw [Below.heap_setCell _ _ _ _ hb, Below.heap_setCell _ _ _ _ hb]
        have hzS := (HI.out.z.setN N).setE A k C
        have HF := Lib.hid (show RetGD R a n cap w (.returned (.agg #[.int .i64 N, .slice A k C])) ((wr.setCell ⟨w.heap.size, 0, none⟩ (.int .i64 N)).setCell ⟨w.heap.size, 1, none⟩ (.slice A k C)) from
          ⟨⟨N, A, k, C, ys⟩, rfl, ⟨OwnS.of (own_base (own_keep' HI.out.own (fun g hg => hk0 g (by have := (World.ownsRow.lt HI.out.own g hg).1; omega))) (by omega)) HI.out.len (show k ≤ _ by omega), Nat.le_refl _⟩, ⟨by show (0 : Int) ≤ N; omega, by show (N : Int) ≤ 8; omega⟩, by show k ≤ 13; omega, HI.out.all, HI.out.cur.keep (hk0 R (by omega)), HI.out.win.then_below hbs⟩)
        obtain ⟨g0, g1, g2, g3⟩ := HI.out.g
        obtain ⟨z0, z1, z2, z3⟩ := HI.out.z
        obtain ⟨y0, y1, y2, y3⟩ := hzS
        clear hbs hk0
        go_wp2
        refine bodyPost_ret (v := .agg #[.int .i64 N, .slice A k C]) (by simp [results, Tryd.results59, go_sem, y0, y1]) rfl ?_
        exact HF.out
end Go.Proofs.YtgkgbpgnbnledaaDoor

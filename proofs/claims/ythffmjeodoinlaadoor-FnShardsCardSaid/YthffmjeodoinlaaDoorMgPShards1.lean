import Derived.Test.YthffmjeodoinlaaDoorRows
import Derived.Test.YthffmjeodoinlaaDoorOwn
import Derived.Test.YthffmjeodoinlaaDoorApp
import Derived.Test.YthffmjeodoinlaaDoorMgPShards0
import Derived.Deep.AppendLies
import Derived.Deep.RegionHeld3
import Derived.Test.YthffmjeodoinlaaDoorOutR
import Derived.OrdersHeld
import Derived.Test.YthffmjeodoinlaaDoorMergeS
import Derived.Test.YthffmjeodoinlaaDoorNestA
import Derived.Test.YthffmjeodoinlaaDoorSortAll
import Derived.Test.YthffmjeodoinlaaDoorSortP
import Derived.Test.YthffmjeodoinlaaDoorSortOneS
import Derived.Test.YthffmjeodoinlaaDoorOut
import Derived.Test.YthffmjeodoinlaaDoorShardOkI
import Derived.Test.YthffmjeodoinlaaDoorKeep
import Derived.Test.YthffmjeodoinlaaDoorOpen
/- The draws' cursor: what it gives is in range. -/
namespace Go.Proofs.YthffmjeodoinlaaDoor
open Go.RowKit
theorem and_nat (x : Int) (m : Nat) (hm : m < 4611686018427387904) : 0 ≤ bits .and .i64 x (m : Int) ∧ bits .and .i64 x (m : Int) ≤ (m : Int) := by
  have hx : (BitVec.ofInt 64 x &&& BitVec.ofInt 64 (m : Int)).toNat ≤ m := by
    rw [BitVec.toNat_and, ofInt_u64 m (by omega)]
    exact Nat.and_le_right
  have e : bits .and .i64 x (m : Int) = IntKind.i64.wrap ((BitVec.ofInt 64 x &&& BitVec.ofInt 64 (m : Int)).toNat : Int) := rfl
  rw [e, IntWalk.i64_in _ (by omega)]
  omega
theorem and255 (x : Int) : 0 ≤ bits .and .i64 x 255 ∧ bits .and .i64 x 255 ≤ 255 := and_nat x 255 (by omega)
/-- The cursor's block. -/
structure Cur (w : World) (R : Nat) (a : Option Addr) (n cap : Nat) : Prop where
  c0 : w.cell? ⟨R, 0, none⟩ = some (.slice a n cap)
  c1 : ∃ i : Nat, i ≤ n ∧ w.cell? ⟨R, 1, none⟩ = some (.int .i64 i)
  c2 : ∃ h : Int, w.cell? ⟨R, 2, none⟩ = some (.int .i64 h)
  f1 : w.frozen? ⟨R, 1, none⟩ = false
  f2 : w.frozen? ⟨R, 2, none⟩ = false
theorem Cur.lt {w : World} {R : Nat} {a : Option Addr} {n cap : Nat} (h : Cur w R a n cap) : R < w.heap.size := World.block_lt_of_cell? _ _ h.c0
theorem Cur.keep {w w' : World} {R : Nat} {a : Option Addr} {n cap : Nat} (h : Cur w R a n cap) (hb : w'.heap[R]? = w.heap[R]?) : Cur w' R a n cap := by
  have c : ∀ o, w'.cell? ⟨R, o, none⟩ = w.cell? ⟨R, o, none⟩ := fun o => World.cell?_of_block (w := w) (a := ⟨R, o, none⟩) hb
  have f : ∀ o, w'.frozen? ⟨R, o, none⟩ = w.frozen? ⟨R, o, none⟩ := fun o => by unfold World.frozen?; rw [hb]
  obtain ⟨i, hi, e1⟩ := h.c1
  obtain ⟨h', e2⟩ := h.c2
  exact ⟨(c 0).trans h.c0, ⟨i, hi, (c 1).trans e1⟩, ⟨h', (c 2).trans e2⟩, (f 1).trans h.f1, (f 2).trans h.f2⟩
theorem Cur.below {w w' : World} {R : Nat} {a : Option Addr} {n cap : Nat} (h : Cur w R a n cap) (hb : Below w.heap.size w w') : Cur w' R a n cap := h.keep (hb.block R h.lt)
theorem Cur.setH {w : World} {R : Nat} {a : Option Addr} {n cap : Nat} (h : Cur w R a n cap) (H : Int) : Cur (w.setCell ⟨R, 2, none⟩ (.int .i64 H)) R a n cap := by
  obtain ⟨i, hi, e1⟩ := h.c1
  obtain ⟨h', e2⟩ := h.c2
  exact ⟨by rw [World.cell?_setCell_other _ _ _ _ (by simp)]; exact h.c0, ⟨i, hi, by rw [World.cell?_setCell_other _ _ _ _ (by simp)]; exact e1⟩, ⟨H, World.cell?_setCell_same _ _ _ e2⟩, by rw [World.frozen?_setCell]; exact h.f1, by rw [World.frozen?_setCell]; exact h.f2⟩
theorem Cur.setI {w : World} {R : Nat} {a : Option Addr} {n cap : Nat} (h : Cur w R a n cap) (j : Nat) (hj : j ≤ n) : Cur (w.setCell ⟨R, 1, none⟩ (.int .i64 j)) R a n cap := by
  obtain ⟨i, hi, e1⟩ := h.c1
  obtain ⟨h', e2⟩ := h.c2
  exact ⟨by rw [World.cell?_setCell_other _ _ _ _ (by simp)]; exact h.c0, ⟨j, hj, World.cell?_setCell_same _ _ _ e1⟩, ⟨h', by rw [World.cell?_setCell_other _ _ _ _ (by simp)]; exact e2⟩, by rw [World.frozen?_setCell]; exact h.f1, by rw [World.frozen?_setCell]; exact h.f2⟩
theorem Cur.drewN {w : World} {R : Nat} {a : Option Addr} {n cap : Nat} (h : Cur w R a n cap) (q : Nat) : Cur (w.drewN q) R a n cap := h.below (below_drewN (Below.refl _ _) q)
def RetByte (R : Nat) (a : Option Addr) (n cap : Nat) (w : World) (en : Ending) (w' : World) : Prop := ∃ x : Int, en = .returned (.int .i64 x) ∧ (0 ≤ x ∧ x ≤ 255) ∧ Cur w' R a n cap ∧ Win R (R + 1) w w'
set_option maxRecDepth 100000 in
set_option maxHeartbeats 3200000 in
theorem l01Byte_any (R : Nat) (a : Option Addr) (n cap : Nat) (zs : List Int) (w0 w : World) (h : Rd (encI .u8) 1 w0 a n cap zs) (hb0 : Below w0.heap.size w0 w) (hRw : w0.heap.size ≤ R) (hC : Cur w R a n cap) (hn : n ≤ 1048576) :
    Calls Tryd.prog 28 #[.pointer (some ⟨R, 0, none⟩)] w fun e w' => RetByte R a n cap w e w' := by
  have HC := Lib.hid hC
  have hRl := hC.lt
  obtain ⟨c0, ⟨i, hi, c1⟩, ⟨hh, c2⟩, f1, f2⟩ := hC
  have hm := h.max
  have hle := h.le
  unfold maxLen at hm
  by_cases hin : i < n
  · have hini : (i : Int) < (n : Int) := by omega
    obtain ⟨b, off, rfl, hbl, hc⟩ := h.ints (by omega)
    have cz : w.cell? ⟨b, off + i, none⟩ = some (.int .u8 (zs.getD i 0)) := (hb0.cell (p := ⟨b, off + i, none⟩) hbl).trans (hc i hin)
    have hne : R ≠ b := by omega
    clear hc
    generalize zs.getD i 0 = Z at *
    go_enter Tryd.func28, Tryd.ntmps28
    go_wp2_with fail
    go_quiet (fail)
    go_wp2_with fail
    go_quiet (fail)
    go_wp2_with fail
    go_quiet (fail)
    go_wp2
    go_ret
    have hC : Cur w R (some ⟨b, off, none⟩) n cap := HC
    exact ⟨_, rfl, and255 _, ((hC.setH _).drewN _).setI (i + 1) (by omega), ((Win.set w R 2 _ (Nat.le_refl _) (by omega)).trans (Win.of_below (below_drewN (Below.refl _ _) _))).trans (Win.set _ R 1 _ (Nat.le_refl _) (by omega))⟩
  · have hini : (n : Int) ≤ (i : Int) := by omega
    go_enter Tryd.func28, Tryd.ntmps28
    go_wp2_with fail
    go_quiet (fail)
    go_wp2_with fail
    go_quiet (fail)
    go_wp2
    go_ret
    have hC : Cur w R a n cap := HC
    exact ⟨_, rfl, and255 _, ((hC.setH _).drewN _).drewN _, (Win.set w R 2 _ (Nat.le_refl _) (by omega)).trans (Win.of_below (below_drewN (below_drewN (Below.refl _ _) _) _))⟩
/-- Below n: 0 when n ≤ 0, and else from 0 to n - 1. -/
def RetUnder (R : Nat) (a : Option Addr) (n cap : Nat) (m : Int) (w : World) (en : Ending) (w' : World) : Prop := ∃ x : Int, en = .returned (.int .i64 x) ∧ 0 ≤ x ∧ (m ≤ 0 → x = 0) ∧ (0 < m → x < m) ∧ Cur w' R a n cap ∧ Win R (R + 1) w w'
theorem emod_int (x m : Int) (_hx : 0 ≤ x) (hm : 0 < m) : 0 ≤ x % m ∧ x % m < m := ⟨Int.emod_nonneg _ (by omega), Int.emod_lt_of_pos _ hm⟩
set_option maxRecDepth 100000 in
set_option maxHeartbeats 3200000 in
theorem l01Below_any (R : Nat) (a : Option Addr) (n cap : Nat) (zs : List Int) (m : Int) (hm64 : m ≤ 9223372036854775807) (w0 w : World) (h : Rd (encI .u8) 1 w0 a n cap zs) (hb0 : Below w0.heap.size w0 w) (hRw : w0.heap.size ≤ R) (hC : Cur w R a n cap) (hn : n ≤ 1048576) :
    Calls Tryd.prog 18 #[.pointer (some ⟨R, 0, none⟩), .int .i64 m] w fun e w' => RetUnder R a n cap m w e w' := by
  have hRl := hC.lt
  by_cases hm : m ≤ 0
  · go_enter Tryd.func18, Tryd.ntmps18
    go_wp2
    go_ret
    exact ⟨0, rfl, by omega, fun _ => rfl, fun _ => by omega, hC, Win.refl _ _ _⟩
  have hm0 : 0 < m := by omega
  have i1 : ¬ (m = 0) := by omega
  by_cases hm2 : m ≤ 256
  · go_enter Tryd.func18, Tryd.ntmps18
    go_wp2_with fail
    refine (l01Byte_any R a n cap zs w0 _ h hb0 hRw hC hn).mono ?_
    rintro e w1 ⟨x, rfl, ⟨hx0, hx1⟩, hC1, hW1⟩
    simp only
    go_wp2
    go_ret
    exact ⟨_, rfl, (emod_int x m hx0 hm0).1, fun _ => by omega, fun _ => (emod_int x m hx0 hm0).2, hC1, hW1⟩
  · have i2 : 256 < m := by omega
    go_enter Tryd.func18, Tryd.ntmps18
    go_wp2_with fail
    refine (l01Byte_any R a n cap zs w0 _ h hb0 hRw hC hn).mono ?_
    rintro e w1 ⟨x1, rfl, ⟨hx1, hy1⟩, hC1, hW1⟩
    have hb1 : Below w0.heap.size w0 w1 := hb0.trans (hW1.below hRw hb0.size)
    simp only
    go_wp2_with fail
    refine (l01Byte_any R a n cap zs w0 _ h hb1 hRw hC1 hn).mono ?_
    rintro e w2 ⟨x2, rfl, ⟨hx2, hy2⟩, hC2, hW2⟩
    have hb2 : Below w0.heap.size w0 w2 := hb1.trans (hW2.below hRw hb1.size)
    simp only
    go_wp2_with fail
    refine (l01Byte_any R a n cap zs w0 _ h hb2 hRw hC2 hn).mono ?_
    rintro e w3 ⟨x3, rfl, ⟨hx3, hy3⟩, hC3, hW3⟩
    have hb3 : Below w0.heap.size w0 w3 := hb2.trans (hW3.below hRw hb2.size)
    simp only
    go_wp2_with fail
    refine (l01Byte_any R a n cap zs w0 _ h hb3 hRw hC3 hn).mono ?_
    rintro e w4 ⟨x4, rfl, ⟨hx4, hy4⟩, hC4, hW4⟩
    simp only
    go_wp2
    go_ret
    have hs : 0 ≤ x1 * 16777216 + x2 * 65536 + x3 * 256 + x4 := by omega
    exact ⟨_, rfl, (emod_int _ m hs hm0).1, fun _ => by omega, fun _ => (emod_int _ m hs hm0).2, hC4, ((hW1.trans hW2).trans hW3).trans hW4⟩
theorem Cur.new (w : World) (a : Option Addr) (n cap : Nat) (x : Int) (t : TypeId) : Cur (w.alloc (.cells #[.slice a n cap, .int .i64 0, .int .i64 x] t)) w.heap.size a n cap :=
  ⟨by simp [go_sem], ⟨0, Nat.zero_le _, by simp [go_sem]⟩, ⟨x, by simp [go_sem]⟩, by simp [go_sem], by simp [go_sem]⟩
/-- A new cursor over the code. -/
def RetCur (a : Option Addr) (n cap : Nat) (w : World) (en : Ending) (w' : World) : Prop := ∃ R : Nat, en = .returned (.pointer (some ⟨R, 0, none⟩)) ∧ w.heap.size ≤ R ∧ Cur w' R a n cap ∧ Below w.heap.size w w'
set_option maxRecDepth 100000 in
set_option maxHeartbeats 3200000 in
theorem l01New_any (a : Option Addr) (n cap : Nat) (zs : List Int) (w : World) (h : Rd (encI .u8) 1 w a n cap zs) (hn : n ≤ 1048576) :
    Calls Tryd.prog 14 #[.slice a n cap] w fun e w' => RetCur a n cap w e w' := by
  have hm := h.max
  have hle := h.le
  unfold maxLen at hm
  go_enter Tryd.func14, Tryd.ntmps14
  go_wp2
  go_loopw [3, 4] (fun v i wr => ∃ (k : Nat) (x : Int), k ≤ n ∧ i = .int .i64 k ∧ v = .int .i64 x ∧ wr = w) (fun _ i _ => n - (intOf i).toNat)
  case atStart => exact ⟨0, _, Nat.zero_le _, rfl, rfl, rfl⟩
  case round =>
    obtain ⟨k, x, hk, rfl, rfl, rfl⟩ := hrel
    by_cases hlt : k < n
    · have hki : (k : Int) < (n : Int) := by omega
      obtain ⟨b, off, rfl, hbl, hc⟩ := h.ints (by omega)
      have cz : wr.cell? ⟨b, off + k, none⟩ = some (.int .u8 (zs.getD k 0)) := hc k hlt
      clear hc
      generalize zs.getD k 0 = Z at *
      by_cases hk4 : k < 4000
      · have hk4i : (k : Int) < 4000 := by omega
        go_wp2
        go_roundw
        case rel => exact ⟨k + 1, _, by omega, by go_num, rfl, trivial⟩
        case measure => simp [intOf]; omega
      · have hk4i : (4000 : Int) ≤ (k : Int) := by omega
        go_wp2
        go_ret
        exact ⟨_, rfl, Nat.le_refl _, Cur.new _ _ _ _ _ _, (Below.refl _ _).alloc (Nat.le_refl _) _⟩
    · obtain rfl : k = n := by omega
      go_wp2
      go_ret
      exact ⟨_, rfl, Nat.le_refl _, Cur.new _ _ _ _ _ _, (Below.refl _ _).alloc (Nat.le_refl _) _⟩
/-- A number below m. -/
def RetNum (m : Int) (w : World) (en : Ending) (w' : World) : Prop := ∃ x : Int, en = .returned (.int .i64 x) ∧ 0 ≤ x ∧ (m ≤ 0 → x = 0) ∧ (0 < m → x < m) ∧ Below w.heap.size w w'
set_option maxRecDepth 100000 in
set_option maxHeartbeats 3200000 in
theorem makeNum_any (a : Option Addr) (n cap : Nat) (zs : List Int) (m : Int) (w : World) (h : Rd (encI .u8) 1 w a n cap zs) (hm64 : m ≤ 9223372036854775807) (hn : n ≤ 1048576) :
    Calls Tryd.prog 6 #[.slice a n cap, .int .i64 m] w fun e w' => RetNum m w e w' := by
  go_enter Tryd.func6, Tryd.ntmps6
  go_wp2_with fail
  refine (l01New_any a n cap zs _ h hn).mono ?_
  rintro e w1 ⟨R, rfl, hR, hC, hb⟩
  simp only
  obtain ⟨hh, c2⟩ := hC.c2
  have f2 := hC.f2
  have HC := Lib.hid hC
  clear hC
  go_wp2_with fail
  refine (l01Below_any R a n cap zs m hm64 w _ h ?_ hR (HC.out.setH _) hn).mono ?_
  · exact hb.trans ((Win.set (lo := R) (hi := R + 1) w1 R 2 _ (Nat.le_refl _) (by omega)).below hR hb.size)
  rintro e w2 ⟨x, rfl, hx0, hx1, hx2, hC2, hW2⟩
  simp only
  have hb2 := hb.trans ((Win.set (lo := R) (hi := R + 1) w1 R 2 (.int .i64 (wrap64 (hh + 777))) (Nat.le_refl _) (by omega)).below hR hb.size)
  have hb3 := hb2.trans (hW2.below hR hb2.size)
  go_wp2
  go_ret
  exact ⟨x, rfl, hx0, hx1, hx2, hb3⟩
/-- A frame that is right, with at most nine bytes of data. -/
def RetFrm (R : Nat) (a : Option Addr) (n cap : Nat) (w : World) (en : Ending) (w' : World) : Prop := ∃ (k : Int) (a' : Option Addr) (n' c' : Nat) (ys : List Int), en = .returned (.agg #[.int .i64 k, .slice a' n' c']) ∧ OwnI .u8 5 w.heap.size w'.heap.size w' a' n' c' ys ∧ (∀ y ∈ ys, In8 y) ∧ n' ≤ 9 ∧ (1 ≤ k ∧ k ≤ 3) ∧ Cur w' R a n cap ∧ Win R (R + 1) w w'
end Go.Proofs.YthffmjeodoinlaaDoor

/- Graphs that are drawn. -/
namespace Go.Proofs.YthffmjeodoinlaaDoor
open Go.RowKit
/-- A graph in a block of the call's own. -/
structure GCell (w : World) (G : Nat) (n : Int) (A : Option Addr) (m C : Nat) : Prop where
  c0 : w.cell? ⟨G, 0, none⟩ = some (.int .i64 n)
  c1 : w.cell? ⟨G, 1, none⟩ = some (.slice A m C)
  f0 : w.frozen? ⟨G, 0, none⟩ = false
  f1 : w.frozen? ⟨G, 1, none⟩ = false
theorem GCell.lt {w : World} {G : Nat} {n : Int} {A : Option Addr} {m C : Nat} (h : GCell w G n A m C) : G < w.heap.size := World.block_lt_of_cell? _ _ h.c0
theorem GCell.keep {w w' : World} {G : Nat} {n : Int} {A : Option Addr} {m C : Nat} (h : GCell w G n A m C) (hb : w'.heap[G]? = w.heap[G]?) : GCell w' G n A m C := by
  have c : ∀ o, w'.cell? ⟨G, o, none⟩ = w.cell? ⟨G, o, none⟩ := fun o => World.cell?_of_block (w := w) (a := ⟨G, o, none⟩) hb
  have f : ∀ o, w'.frozen? ⟨G, o, none⟩ = w.frozen? ⟨G, o, none⟩ := fun o => by unfold World.frozen?; rw [hb]
  exact ⟨(c 0).trans h.c0, (c 1).trans h.c1, (f 0).trans h.f0, (f 1).trans h.f1⟩
theorem GCell.below {w w' : World} {G : Nat} {n : Int} {A : Option Addr} {m C : Nat} (h : GCell w G n A m C) (hb : Below w.heap.size w w') : GCell w' G n A m C := h.keep (hb.block G h.lt)
theorem GCell.win {w w' : World} {G lo hi : Nat} {n : Int} {A : Option Addr} {m C : Nat} (h : GCell w G n A m C) (hw : Win lo hi w w') (hd : G < lo ∨ hi ≤ G) : GCell w' G n A m C := h.keep (hw.block G h.lt hd)
theorem GCell.setN {w : World} {G : Nat} {n : Int} {A : Option Addr} {m C : Nat} (h : GCell w G n A m C) (v : Int) : GCell (w.setCell ⟨G, 0, none⟩ (.int .i64 v)) G v A m C :=
  ⟨World.cell?_setCell_same _ _ _ h.c0, by rw [World.cell?_setCell_other _ _ _ _ (by simp)]; exact h.c1, by rw [World.frozen?_setCell]; exact h.f0, by rw [World.frozen?_setCell]; exact h.f1⟩
theorem GCell.setE {w : World} {G : Nat} {n : Int} {A : Option Addr} {m C : Nat} (h : GCell w G n A m C) (A' : Option Addr) (m' C' : Nat) : GCell (w.setCell ⟨G, 1, none⟩ (.slice A' m' C')) G n A' m' C' :=
  ⟨by rw [World.cell?_setCell_other _ _ _ _ (by simp)]; exact h.c0, World.cell?_setCell_same _ _ _ h.c1, by rw [World.frozen?_setCell]; exact h.f0, by rw [World.frozen?_setCell]; exact h.f1⟩
theorem GCell.new (w : World) (t : TypeId) (n : Int) (A : Option Addr) (m C : Nat) : GCell (w.alloc (.cells #[.int .i64 n, .slice A m C] t)) w.heap.size n A m C := ⟨by simp [go_sem], by simp [go_sem], by simp [go_sem], by simp [go_sem]⟩
theorem infoEdgeD : (Tryd.prog.info? 52).map (fun i => (i.zero, i.size, i.bytes)) = some (some (.agg #[.int .i64 0, .int .i64 0, .int .i64 0]), 3, 24) := by kernel_rfl
/-- An edge that is drawn. -/
def mgE (n : Int) (e : EdgeR) : Prop := (0 ≤ e.fr ∧ e.fr < n) ∧ (0 ≤ e.to ∧ e.to < n) ∧ 0 ≤ e.wt ∧ e.wt < 8
/-- A graph that is drawn, of n up to 8. -/
def RetGD (R : Nat) (a : Option Addr) (n cap : Nat) (w : World) (en : Ending) (w' : World) : Prop := ∃ y : GraphR, en = .returned (.agg #[.int .i64 y.n, .slice y.edgesA y.edgesN y.edgesC]) ∧ OwnGraph w.heap.size w'.heap.size w' y ∧ (0 ≤ y.n ∧ y.n ≤ 8) ∧ y.edgesN ≤ 13 ∧ (∀ e ∈ y.edges, mgE y.n e) ∧ Cur w' R a n cap ∧ Win R (R + 1) w w'
/-- The loop's state. -/
structure GDInv (R : Nat) (a : Option Addr) (n cap : Nat) (w wr : World) (G N k : Nat) (A : Option Addr) (C : Nat) (ys : List EdgeR) : Prop where
  g : GCell wr G N A k C
  z : GCell wr w.heap.size 0 none 0 0
  own : wr.ownsRow (G + 1) 52 3 (.slice A k C) k (ys.flatMap encEdge)
  len : ys.length = k
  all : ∀ e ∈ ys, mgE N e
  cur : Cur wr R a n cap
  win : Win R (R + 1) w wr
  zg : w.heap.size < G
  rw0 : R < w.heap.size
theorem GDInv.win2 {R : Nat} {a : Option Addr} {n cap : Nat} {w wr wr' : World} {G N k : Nat} {A : Option Addr} {C : Nat} {ys : List EdgeR} (h : GDInv R a n cap w wr G N k A C ys) (hW : Win R (R + 1) wr wr') (hC : Cur wr' R a n cap) : GDInv R a n cap w wr' G N k A C ys :=
  ⟨h.g.win hW (Or.inr (by have := h.zg; have := h.rw0; omega)), h.z.win hW (Or.inr h.rw0), own_win h.own hW (fun g hg => Or.inr (by have := (World.ownsRow.lt h.own g hg).1; have := h.zg; have := h.rw0; omega)), h.len, h.all, hC, h.win.trans hW, h.zg, h.rw0⟩
theorem GDInv.later {R : Nat} {a : Option Addr} {n cap : Nat} {w wr wr' : World} {G N k : Nat} {A : Option Addr} {C : Nat} {ys : List EdgeR} (h : GDInv R a n cap w wr G N k A C ys) (hb : Below wr.heap.size wr wr') : GDInv R a n cap w wr' G N k A C ys :=
  ⟨h.g.below hb, h.z.below hb, own_below h.own hb (Nat.le_refl _), h.len, h.all, h.cur.below hb, h.win.trans (Win.of_below hb), h.zg, h.rw0⟩
theorem GDInv.far {R : Nat} {a : Option Addr} {n cap : Nat} {w wr w9 : World} {G N k : Nat} {A : Option Addr} {C : Nat} {ys : List EdgeR} (h : GDInv R a n cap w wr G N k A C ys) (hg9 : wr.grownBy w9 (Value.slice A k C).ownBlock) (b : Nat) (hb : b ≤ G) : w9.heap[b]? = wr.heap[b]? :=
  hg9.block b (Nat.lt_of_le_of_lt hb h.g.lt) (fun e => by have := (World.ownsRow.lt h.own b e.symm).1; omega)
theorem GDInv.gk {R : Nat} {a : Option Addr} {n cap : Nat} {w wr w9 : World} {G N k : Nat} {A : Option Addr} {C : Nat} {ys : List EdgeR} (h : GDInv R a n cap w wr G N k A C ys) (hg9 : wr.grownBy w9 (Value.slice A k C).ownBlock) : GCell w9 G N A k C := h.g.keep (h.far hg9 G (Nat.le_refl _))
theorem GDInv.ck {R : Nat} {a : Option Addr} {n cap : Nat} {w wr w9 : World} {G N k : Nat} {A : Option Addr} {C : Nat} {ys : List EdgeR} (h : GDInv R a n cap w wr G N k A C ys) (hg9 : wr.grownBy w9 (Value.slice A k C).ownBlock) : Cur w9 R a n cap := h.cur.keep (h.far hg9 R (by have := h.zg; have := h.rw0; omega))
theorem GDInv.wk {R : Nat} {a : Option Addr} {n cap : Nat} {w wr w9 : World} {G N k : Nat} {A : Option Addr} {C : Nat} {ys : List EdgeR} (h : GDInv R a n cap w wr G N k A C ys) (hg9 : wr.grownBy w9 (Value.slice A k C).ownBlock) : Win R (R + 1) w w9 :=
  h.win.then_below (below_grown hg9 (B := w.heap.size) (by have := h.zg; have := h.g.lt; omega) (fun q hq => by have := (World.ownsRow.lt h.own q hq).1; have := h.zg; omega))
theorem GDInv.put {R : Nat} {a : Option Addr} {n cap : Nat} {w wr w9 : World} {G N k : Nat} {A : Option Addr} {C : Nat} {ys : List EdgeR} (h : GDInv R a n cap w wr G N k A C ys) (hg9 : wr.grownBy w9 (Value.slice A k C).ownBlock) {A9 : Option Addr} {C9 : Nat} {xs : EdgeR}
    (ho9 : w9.ownsRow (G + 1) 52 3 (.slice A9 (k + 1) C9) (k + 1) (ys.flatMap encEdge ++ encEdge xs)) (hx : mgE N xs) : GDInv R a n cap w (w9.setCell ⟨G, 1, none⟩ (.slice A9 (k + 1) C9)) G N (k + 1) A9 C9 (ys ++ [xs]) := by
  have hz := h.zg
  have hr := h.rw0
  have hk : ∀ b, b ≠ G → (w9.setCell ⟨G, 1, none⟩ (.slice A9 (k + 1) C9)).heap[b]? = w9.heap[b]? := fun b hb => Below.heap_setCell _ _ _ _ hb
  refine ⟨(h.gk hg9).setE _ _ _, (h.z.keep (h.far hg9 _ (by omega))).keep (hk _ (by omega)), own_keep' (by rw [List.flatMap_append]; simpa using ho9) (fun g hg => hk g (by have := (World.ownsRow.lt ho9 g hg).1; omega)), by rw [List.length_append, h.len]; rfl, ?_, (h.ck hg9).keep (hk _ (by omega)), (h.wk hg9).then_below ((Below.refl w.heap.size w9).setCell (p := ⟨G, 1, none⟩) (by show w.heap.size ≤ G; omega) _), hz, hr⟩
  intro e he
  rcases List.mem_append.1 he with h1 | h1
  · exact h.all e h1
  · rw [List.mem_singleton.1 h1]; exact hx
theorem one_edge (x : EdgeR) : ∀ u ∈ encEdge x, u.oneCell' = true := by
  intro u hu
  simp [encEdge] at hu
  rcases hu with rfl | rfl | rfl <;> rfl
set_option maxRecDepth 100000 in
set_option maxHeartbeats 6400000 in
theorem l04Draw_any (R : Nat) (a : Option Addr) (n cap : Nat) (zs : List Int) (w0 w : World) (h : Rd (encI .u8) 1 w0 a n cap zs) (hb0 : Below w0.heap.size w0 w) (hRw : w0.heap.size ≤ R) (hC : Cur w R a n cap) (hn : n ≤ 1048576) :
    Calls Tryd.prog 15 #[.pointer (some ⟨R, 0, none⟩)] w fun e w' => RetGD R a n cap w e w' := by
  have hRl := hC.lt
  obtain ⟨i0, hi, hz0, hz1, hz2⟩ := info_parts infoEdgeD
  have ha0 := (Below.refl w.heap.size w).alloc (Nat.le_refl _) (.cells #[.int .i64 0, .slice none 0 0] 25)
  have hz := GCell.new w 25 0 none 0 0
  have hbS := hb0.trans (ha0.mono hb0.size)
  have hCS := hC.below ha0
  go_enter Tryd.func15, Tryd.ntmps15
  go_wp2_with fail
  refine (l01Below_any R a n cap zs 9 (by omega) w0 _ h hbS hRw hCS hn).mono ?_
  rintro e w1 ⟨x, rfl, hx0, _, hx1, hC1, hW1⟩
  have hx2 := hx1 (by omega)
  have HW1 : Win R (R + 1) w w1 := (Win.of_below ha0).trans hW1
  have hz1' := hz.win hW1 (Or.inr (by omega))
  have hs1 := HW1.size
  have hzl := hz1'.lt
  have hal := (Below.refl w1.heap.size w1).alloc (Nat.le_refl _) (.cells #[.int .i64 x, .slice none 0 0] 25)
  have hg := GCell.new w1 25 x none 0 0
  have hz2' := hz1'.below hal
  have hC2 := hC1.below hal
  have HW2 := HW1.trans (Win.of_below hal)
  simp only
  clear hx1 hz hCS hbS ha0 hW1
  by_cases hN : x = 0
  · subst hN
    have hbs : Below w.heap.size w1 ((w1.setCell ⟨w.heap.size, 0, none⟩ (.int .i64 0)).setCell ⟨w.heap.size, 1, none⟩ (.slice none 0 0)) := ((Below.refl w.heap.size w1).setCell (p := ⟨w.heap.size, 0, none⟩) (Nat.le_refl _) _).setCell (p := ⟨w.heap.size, 1, none⟩) (Nat.le_refl _) _
    have hzS : GCell ((w1.setCell ⟨w.heap.size, 0, none⟩ (.int .i64 0)).setCell ⟨w.heap.size, 1, none⟩ (.slice none 0 0)) w.heap.size 0 none 0 0 := (hz1'.setN 0).setE none 0 0
    have hCS : Cur ((w1.setCell ⟨w.heap.size, 0, none⟩ (.int .i64 0)).setCell ⟨w.heap.size, 1, none⟩ (.slice none 0 0)) R a n cap := hC1.keep (hbs.block R hRl)
    have HF := Lib.hid (fun (wF : World) (hC3 : Cur wF R a n cap) (HW3 : Win R (R + 1) w wF) => (show RetGD R a n cap w (.returned (.agg #[.int .i64 0, .slice none 0 0])) wF from
      ⟨⟨0, none, 0, 0, []⟩, rfl, ⟨⟨rfl, World.ownsRow_nil _ _ _ _, fun g hg => by simp [Value.ownBlock] at hg, Nat.le_refl _, Nat.zero_le _⟩, Nat.le_refl _⟩, ⟨by simp, by simp⟩, by simp, (fun e he => by simp at he), hC3, HW3⟩))
    have hzF := hzS.below ((Below.refl _ _).alloc (Nat.le_refl _) (.cells #[.int .i64 0, .slice none 0 0] 25))
    have HFF := Lib.hid (HF.out _ (hCS.below ((Below.refl _ _).alloc (Nat.le_refl _) (.cells #[.int .i64 0, .slice none 0 0] 25))) ((HW1.then_below hbs).trans (Win.of_below ((Below.refl _ _).alloc (Nat.le_refl _) (.cells #[.int .i64 0, .slice none 0 0] 25)))))
    obtain ⟨g0, g1, g2, g3⟩ := hg
    obtain ⟨z0, z1, z2, z3⟩ := hz1'
    obtain ⟨y0, y1, y2, y3⟩ := hzF
    clear hbs hzS hCS
    go_wp2
    refine bodyPost_ret (v := .agg #[.int .i64 0, .slice none 0 0]) (by simp [results, Tryd.results15, go_sem, y0, y1]) rfl ?_
    exact HFF.out
  · have hN1 : (x == 0) = false := by simp; omega
    obtain ⟨N, rfl⟩ := Int.eq_ofNat_of_zero_le hx0
    have hN0 : 0 < N := by omega
    have hb2 := hb0.trans (HW2.below hRw hb0.size)
    obtain ⟨G, hG⟩ : ∃ G, G = w1.heap.size := ⟨_, rfl⟩
    have HG := Lib.hid hG
    obtain ⟨g0, g1, g2, g3⟩ := id hg
    go_wp2_with fail
    refine (l01Below_any R a n cap zs 14 (by omega) w0 _ h hb2 hRw hC2 hn).mono ?_
    rintro e w3 ⟨mm, rfl, hm0, _, hm1, hC3, hW3⟩
    have hm2 := hm1 (by omega)
    obtain ⟨M, rfl⟩ := Int.eq_ofNat_of_zero_le hm0
    have hI : GDInv R a n cap w w3 w1.heap.size N 0 none 0 [] := ⟨hg.win hW3 (Or.inr (by omega)), hz2'.win hW3 (Or.inr (by omega)), World.ownsRow_nil _ _ _ _, rfl, (fun e he => by simp at he), hC3, HW2.trans hW3, hzl, hRl⟩
    have HI0 := Lib.hid hI
    clear hI hg g0 g1 g2 g3 hz2' hC2 hC3 hW3 hm1 hb2 hz1' hC1
    rw [← hG] at *
    simp only
    go_wp2
    go_loopw [4] (fun i wr => ∃ (k : Nat) (A : Option Addr) (C : Nat) (ys : List EdgeR), k ≤ M ∧ i = .int .i64 ((M - k : Nat) : Int) ∧ Hid (GDInv R a n cap w wr G N k A C ys)) (fun i _ => (intOf i).toNat)
    case atStart => exact ⟨0, none, 0, [], Nat.zero_le _, rfl, HI0⟩
    case round =>
      obtain ⟨k, A, C, ys, hk, rfl, HI⟩ := hrel
      clear HI0
      by_cases hlt : k < M
      · have hki : (0 : Int) < ((M - k : Nat) : Int) := by omega
        have hgl := HI.out.g.lt
        have hS0 : wr.drew.cell? ⟨G, 0, none⟩ = some (.int .i64 N) ∧ Cur wr.drew R a n cap ∧ Win R (R + 1) w wr.drew := ⟨HI.out.g.c0, HI.out.cur.below ((Below.refl _ _).drew), HI.out.win.then_below ((Below.refl _ _).drew)⟩
        have l0 := HI.out.g.c1
        go_wp2_with fail
        refine wp_region_held_drew (S := fun w' => w'.cell? ⟨G, 0, none⟩ = some (.int .i64 N) ∧ Cur w' R a n cap ∧ Win R (R + 1) w w') (by kernel_rfl) hS0 (fun hHeld => ?_)
        refine wpAnyH_take (i := 0) (v := ?vq1) rfl (by kernel_rfl) (by kernel_rfl) (by kernel_rfl) (fun _ _ _ h => h) (Or.inl ⟨by rfl, ?hq1⟩) (by assumption) ?rq1
        case hq1 => intro w hSw; (try dsimp only at hSw); go_simp <;> with_reducible rfl
        try simp only [Act.put]
        refine wpAnyH_take (i := 2) (v := ?vq2) rfl (by kernel_rfl) (by kernel_rfl) (by kernel_rfl) (fun _ _ _ h => h) (Or.inl ⟨by rfl, ?hq2⟩) (by assumption) ?rq2
        case hq2 => intro w hSw; (try dsimp only at hSw); go_simp <;> with_reducible rfl
        try simp only [Act.put]
        refine wpAnyH_take (i := 3) (v := ?vq3) rfl (by kernel_rfl) (by kernel_rfl) (by kernel_rfl) (fun _ _ _ h => h) (Or.inl ⟨by rfl, ?hq3⟩) (by assumption) ?rq3
        case hq3 => intro w hSw; (try dsimp only at hSw); go_simp <;> with_reducible rfl
        try simp only [Act.put]
        refine wpAnyH_take (i := 4) (v := ?vq4) rfl (by kernel_rfl) (by kernel_rfl) (by kernel_rfl) (fun _ _ _ h => h) (Or.inl ⟨by rfl, ?hq4⟩) (by assumption) ?rq4
        case hq4 => intro w hSw; (try dsimp only at hSw); go_simp <;> with_reducible rfl
        try simp only [Act.put]
        refine wpAnyH_take (i := 6) (v := ?vq5) rfl (by kernel_rfl) (by kernel_rfl) (by kernel_rfl) (fun _ _ _ h => h) (Or.inl ⟨by rfl, ?hq5⟩) (by assumption) ?rq5
        case hq5 => intro w hSw; (try dsimp only at hSw); go_simp <;> with_reducible rfl
        try simp only [Act.put]
        refine wpAnyH_take (i := 7) (v := ?vq6) rfl (by kernel_rfl) (by kernel_rfl) (by kernel_rfl) (fun _ _ _ h => h) (Or.inl ⟨by rfl, ?hq6⟩) (by assumption) ?rq6
        case hq6 => intro w hSw; (try dsimp only at hSw); go_simp <;> with_reducible rfl
        try simp only [Act.put]
        refine wpAnyH_take (i := 8) (v := ?vq7) rfl (by kernel_rfl) (by kernel_rfl) (by kernel_rfl) (fun _ _ _ h => h) (Or.inl ⟨by rfl, ?hq7⟩) (by assumption) ?rq7
        case hq7 => intro w hSw; (try dsimp only at hSw); go_simp <;> with_reducible rfl
        try simp only [Act.put]
        refine wpAnyH_take (i := 10) (v := ?vq8) rfl (by kernel_rfl) (by kernel_rfl) (by kernel_rfl) (fun _ _ _ h => h) (Or.inl ⟨by rfl, ?hq8⟩) (by assumption) ?rq8
        case hq8 => intro w hSw; (try dsimp only at hSw); go_simp <;> with_reducible rfl
        try simp only [Act.put]
        refine wpAnyH_ready (rs := [1, 5]) (by kernel_rfl) (by simp) ?_
        refine AllReadyH.cons rfl (fun K hK => ?q9) (AllReadyH.cons rfl (fun K hK => ?q10) AllReadyH.nil)
        case' q9 =>
          go_simp
          refine hK.out _ _ hHeld (fun hHeld => ?_)
          clear hK K
          try simp only [Act.put, List.setIfInBounds_toArray, List.set_cons_zero, List.set_cons_succ]
          refine wpAnyH_ready (rs := [5]) (by kernel_rfl) (by simp) ?_
          refine AllReadyH.cons rfl (fun K hK => ?_) AllReadyH.nil
          go_simp
          refine (l01Below_any R a n cap zs (N : Int) (by omega) w0 _ h (hb0.trans (hHeld.2.2.below hRw hb0.size)) hRw hHeld.2.1 hn).mono ?_
          rintro e wa ⟨xa, rfl, xa0, _, xa1, hCa, hWa⟩
          have xa2 := xa1 (by omega)
          have HIa := HI.out.win2 ((Win.of_below ((Below.refl wr.heap.size wr).drew)).trans hWa) hCa
          have la := HIa.g.c1
          have hSa : wa.cell? ⟨G, 0, none⟩ = some (.int .i64 N) ∧ Cur wa R a n cap ∧ Win R (R + 1) w wa := ⟨HIa.g.c0, hCa, HIa.win⟩
          clear xa1
          refine hK.out _ _ hSa (fun hHeld => ?_)
          clear hK K
          try simp only [Act.put, List.setIfInBounds_toArray, List.set_cons_zero, List.set_cons_succ]
          refine wpAnyH_ready (rs := [9]) (by kernel_rfl) (by simp) ?_
          refine AllReadyH.cons rfl (fun K hK => ?_) AllReadyH.nil
          go_simp
          refine (l01Below_any R a n cap zs (N : Int) (by omega) w0 _ h (hb0.trans (hHeld.2.2.below hRw hb0.size)) hRw hHeld.2.1 hn).mono ?_
          rintro e wb ⟨xb, rfl, xb0, _, xb1, hCb, hWb⟩
          have xb2 := xb1 (by omega)
          have HIb := HIa.win2 (hWb) hCb
          have lb := HIb.g.c1
          have hSb : wb.cell? ⟨G, 0, none⟩ = some (.int .i64 N) ∧ Cur wb R a n cap ∧ Win R (R + 1) w wb := ⟨HIb.g.c0, hCb, HIb.win⟩
          clear xb1
          refine hK.out _ _ hSb (fun hHeld => ?_)
          clear hK K
          try simp only [Act.put, List.setIfInBounds_toArray, List.set_cons_zero, List.set_cons_succ]
          refine wpAnyH_ready (rs := [11]) (by kernel_rfl) (by simp) ?_
          refine AllReadyH.cons rfl (fun K hK => ?_) AllReadyH.nil
          go_simp
          refine (l01Below_any R a n cap zs 8 (by omega) w0 _ h (hb0.trans (hHeld.2.2.below hRw hb0.size)) hRw hHeld.2.1 hn).mono ?_
          rintro e wc ⟨xc, rfl, xc0, _, xc1, hCc, hWc⟩
          have xc2 := xc1 (by omega)
          have HIc := HIb.win2 (hWc) hCc
          have lc := HIc.g.c1
          have hSc : wc.cell? ⟨G, 0, none⟩ = some (.int .i64 N) ∧ Cur wc R a n cap ∧ Win R (R + 1) w wc := ⟨HIc.g.c0, hCc, HIc.win⟩
          clear xc1
          refine hK.out _ _ hSc (fun hHeld => ?_)
          clear hK K
          try simp only [Act.put, List.setIfInBounds_toArray, List.set_cons_zero, List.set_cons_succ]
          refine wpAnyH_take (i := 12) (v := ?vq11) rfl (by kernel_rfl) (by kernel_rfl) (by kernel_rfl) (fun _ _ _ h => h) (Or.inl ⟨by rfl, ?hq11⟩) (by assumption) ?rq11
          case hq11 => intro w hSw; (try dsimp only at hSw); go_simp <;> with_reducible rfl
          try simp only [Act.put]
          refine wpAnyH_ready (rs := [13]) (by kernel_rfl) (by simp) ?_
          refine AllReadyH.cons rfl (fun K hK => ?_) AllReadyH.nil
          have hal := (Below.refl wc.heap.size wc).alloc (Nat.le_refl _) (.cells #[.int .i64 xa, .int .i64 xb, .int .i64 xc] 52)
          have HIl := Lib.hid (HIc.later hal)
          have ll := HIl.out.g.c1
          have hSl : (wc.alloc (.cells #[.int .i64 xa, .int .i64 xb, .int .i64 xc] 52)).cell? ⟨G, 0, none⟩ = some (.int .i64 N) ∧ Cur (wc.alloc (.cells #[.int .i64 xa, .int .i64 xb, .int .i64 xc] 52)) R a n cap ∧ Win R (R + 1) w (wc.alloc (.cells #[.int .i64 xa, .int .i64 xb, .int .i64 xc] 52)) := ⟨HIl.out.g.c0, HIl.out.cur, HIl.out.win⟩
          go_simp
          refine hK.out _ _ hSl (fun hHeld => ?_)
          clear hK K
          try simp only [Act.put, List.setIfInBounds_toArray, List.set_cons_zero, List.set_cons_succ]
          refine wpAnyH_ready (rs := [14]) (by kernel_rfl) (by simp) ?_
          refine AllReadyH.cons rfl (fun K hK => ?_) AllReadyH.nil
          refine step_append_lies _ (by rfl) _ _ _ (by rfl) (G + 1) 52 i0 (.agg #[.int .i64 0, .int .i64 0, .int .i64 0]) 3 24 Tryd.underlying23 hi hz0 hz1 hz2 rfl (by decide) (.slice A k C) k (ys.flatMap encEdge) (by rfl) (HIl.out.own) ⟨wc.heap.size, 0, none⟩ 1 1 (encEdge ⟨xa, xb, xc⟩) (by rfl) (by rfl) (World.news_of_block (heap_alloc_new wc (.cells #[.int .i64 xa, .int .i64 xb, .int .i64 xc] 52))) (one_edge _) (by decide) (by unfold maxLen; omega) (by omega) (Nat.succ_le_of_lt HIl.out.g.lt) _ rfl ?_
          rintro g9 C9 w9 ho9 hg9 hor9 hlt9
          have hG9 := HIl.out.gk hg9
          have hS9 : w9.cell? ⟨G, 0, none⟩ = some (.int .i64 N) ∧ Cur w9 R a n cap ∧ Win R (R + 1) w w9 := ⟨hG9.c0, HIl.out.ck hg9, HIl.out.wk hg9⟩
          have HP := Lib.hid (HIl.out.put hg9 ho9 (xs := ⟨xa, xb, xc⟩) ⟨⟨xa0, xa2⟩, ⟨xb0, xb2⟩, xc0, xc2⟩)
          have hSs : (w9.setCell ⟨G, 1, none⟩ (.slice (some ⟨g9, 0, none⟩) (k + 1) C9)).cell? ⟨G, 0, none⟩ = some (.int .i64 N) ∧ Cur (w9.setCell ⟨G, 1, none⟩ (.slice (some ⟨g9, 0, none⟩) (k + 1) C9)) R a n cap ∧ Win R (R + 1) w (w9.setCell ⟨G, 1, none⟩ (.slice (some ⟨g9, 0, none⟩) (k + 1) C9)) := ⟨HP.out.g.c0, HP.out.cur, HP.out.win⟩
          obtain ⟨q0, q1, q2, q3⟩ := hG9
          refine hK.out _ _ hS9 (fun hHeld => ?_)
          clear hK K
          try simp only [Act.put, List.setIfInBounds_toArray]
          refine wpAnyH_take (i := 15) (v := ?vq12) rfl (by kernel_rfl) (by kernel_rfl) (by kernel_rfl) (fun _ _ _ h => h) (Or.inl ⟨by rfl, ?hq12⟩) (by assumption) ?rq12
          case hq12 => intro w hSw; (try dsimp only at hSw); go_simp <;> with_reducible rfl
          try simp only [Act.put]
          refine wpAnyH_ready (rs := [16]) (by kernel_rfl) (by simp) ?_
          refine AllReadyH.cons rfl (fun K hK => ?_) AllReadyH.nil
          go_simp
          refine hK.out _ _ hSs (fun hHeld => ?_)
          clear hK K
          try simp only [Act.put, List.setIfInBounds_toArray, List.set_cons_zero, List.set_cons_succ]
          refine wpAnyH_done (by kernel_rfl) ?_ _
        case' q10 =>
          go_simp
          refine (l01Below_any R a n cap zs (N : Int) (by omega) w0 _ h (hb0.trans (hHeld.2.2.below hRw hb0.size)) hRw hHeld.2.1 hn).mono ?_
          rintro e wa ⟨xa, rfl, xa0, _, xa1, hCa, hWa⟩
          have xa2 := xa1 (by omega)
          have HIa := HI.out.win2 ((Win.of_below ((Below.refl wr.heap.size wr).drew)).trans hWa) hCa
          have la := HIa.g.c1
          have hSa : wa.cell? ⟨G, 0, none⟩ = some (.int .i64 N) ∧ Cur wa R a n cap ∧ Win R (R + 1) w wa := ⟨HIa.g.c0, hCa, HIa.win⟩
          clear xa1
          refine hK.out _ _ hSa (fun hHeld => ?_)
          clear hK K
          try simp only [Act.put, List.setIfInBounds_toArray, List.set_cons_zero, List.set_cons_succ]
          refine wpAnyH_ready (rs := [1, 9]) (by kernel_rfl) (by simp) ?_
          refine AllReadyH.cons rfl (fun K hK => ?q13) (AllReadyH.cons rfl (fun K hK => ?q14) AllReadyH.nil)
          case' q13 =>
            go_simp
            refine hK.out _ _ hHeld (fun hHeld => ?_)
            clear hK K
            try simp only [Act.put, List.setIfInBounds_toArray, List.set_cons_zero, List.set_cons_succ]
            refine wpAnyH_ready (rs := [9]) (by kernel_rfl) (by simp) ?_
            refine AllReadyH.cons rfl (fun K hK => ?_) AllReadyH.nil
            go_simp
            refine (l01Below_any R a n cap zs (N : Int) (by omega) w0 _ h (hb0.trans (hHeld.2.2.below hRw hb0.size)) hRw hHeld.2.1 hn).mono ?_
            rintro e wb ⟨xb, rfl, xb0, _, xb1, hCb, hWb⟩
            have xb2 := xb1 (by omega)
            have HIb := HIa.win2 (hWb) hCb
            have lb := HIb.g.c1
            have hSb : wb.cell? ⟨G, 0, none⟩ = some (.int .i64 N) ∧ Cur wb R a n cap ∧ Win R (R + 1) w wb := ⟨HIb.g.c0, hCb, HIb.win⟩
            clear xb1
            refine hK.out _ _ hSb (fun hHeld => ?_)
            clear hK K
            try simp only [Act.put, List.setIfInBounds_toArray, List.set_cons_zero, List.set_cons_succ]
            refine wpAnyH_ready (rs := [11]) (by kernel_rfl) (by simp) ?_
            refine AllReadyH.cons rfl (fun K hK => ?_) AllReadyH.nil
            go_simp
            refine (l01Below_any R a n cap zs 8 (by omega) w0 _ h (hb0.trans (hHeld.2.2.below hRw hb0.size)) hRw hHeld.2.1 hn).mono ?_
            rintro e wc ⟨xc, rfl, xc0, _, xc1, hCc, hWc⟩
            have xc2 := xc1 (by omega)
            have HIc := HIb.win2 (hWc) hCc
            have lc := HIc.g.c1
            have hSc : wc.cell? ⟨G, 0, none⟩ = some (.int .i64 N) ∧ Cur wc R a n cap ∧ Win R (R + 1) w wc := ⟨HIc.g.c0, hCc, HIc.win⟩
            clear xc1
            refine hK.out _ _ hSc (fun hHeld => ?_)
            clear hK K
            try simp only [Act.put, List.setIfInBounds_toArray, List.set_cons_zero, List.set_cons_succ]
            refine wpAnyH_take (i := 12) (v := ?vq15) rfl (by kernel_rfl) (by kernel_rfl) (by kernel_rfl) (fun _ _ _ h => h) (Or.inl ⟨by rfl, ?hq15⟩) (by assumption) ?rq15
            case hq15 => intro w hSw; (try dsimp only at hSw); go_simp <;> with_reducible rfl
            try simp only [Act.put]
            refine wpAnyH_ready (rs := [13]) (by kernel_rfl) (by simp) ?_
            refine AllReadyH.cons rfl (fun K hK => ?_) AllReadyH.nil
            have hal := (Below.refl wc.heap.size wc).alloc (Nat.le_refl _) (.cells #[.int .i64 xa, .int .i64 xb, .int .i64 xc] 52)
            have HIl := Lib.hid (HIc.later hal)
            have ll := HIl.out.g.c1
            have hSl : (wc.alloc (.cells #[.int .i64 xa, .int .i64 xb, .int .i64 xc] 52)).cell? ⟨G, 0, none⟩ = some (.int .i64 N) ∧ Cur (wc.alloc (.cells #[.int .i64 xa, .int .i64 xb, .int .i64 xc] 52)) R a n cap ∧ Win R (R + 1) w (wc.alloc (.cells #[.int .i64 xa, .int .i64 xb, .int .i64 xc] 52)) := ⟨HIl.out.g.c0, HIl.out.cur, HIl.out.win⟩
            go_simp
            refine hK.out _ _ hSl (fun hHeld => ?_)
            clear hK K
            try simp only [Act.put, List.setIfInBounds_toArray, List.set_cons_zero, List.set_cons_succ]
            refine wpAnyH_ready (rs := [14]) (by kernel_rfl) (by simp) ?_
            refine AllReadyH.cons rfl (fun K hK => ?_) AllReadyH.nil
            refine step_append_lies _ (by rfl) _ _ _ (by rfl) (G + 1) 52 i0 (.agg #[.int .i64 0, .int .i64 0, .int .i64 0]) 3 24 Tryd.underlying23 hi hz0 hz1 hz2 rfl (by decide) (.slice A k C) k (ys.flatMap encEdge) (by rfl) (HIl.out.own) ⟨wc.heap.size, 0, none⟩ 1 1 (encEdge ⟨xa, xb, xc⟩) (by rfl) (by rfl) (World.news_of_block (heap_alloc_new wc (.cells #[.int .i64 xa, .int .i64 xb, .int .i64 xc] 52))) (one_edge _) (by decide) (by unfold maxLen; omega) (by omega) (Nat.succ_le_of_lt HIl.out.g.lt) _ rfl ?_
            rintro g9 C9 w9 ho9 hg9 hor9 hlt9
            have hG9 := HIl.out.gk hg9
            have hS9 : w9.cell? ⟨G, 0, none⟩ = some (.int .i64 N) ∧ Cur w9 R a n cap ∧ Win R (R + 1) w w9 := ⟨hG9.c0, HIl.out.ck hg9, HIl.out.wk hg9⟩
            have HP := Lib.hid (HIl.out.put hg9 ho9 (xs := ⟨xa, xb, xc⟩) ⟨⟨xa0, xa2⟩, ⟨xb0, xb2⟩, xc0, xc2⟩)
            have hSs : (w9.setCell ⟨G, 1, none⟩ (.slice (some ⟨g9, 0, none⟩) (k + 1) C9)).cell? ⟨G, 0, none⟩ = some (.int .i64 N) ∧ Cur (w9.setCell ⟨G, 1, none⟩ (.slice (some ⟨g9, 0, none⟩) (k + 1) C9)) R a n cap ∧ Win R (R + 1) w (w9.setCell ⟨G, 1, none⟩ (.slice (some ⟨g9, 0, none⟩) (k + 1) C9)) := ⟨HP.out.g.c0, HP.out.cur, HP.out.win⟩
            obtain ⟨q0, q1, q2, q3⟩ := hG9
            refine hK.out _ _ hS9 (fun hHeld => ?_)
            clear hK K
            try simp only [Act.put, List.setIfInBounds_toArray]
            refine wpAnyH_take (i := 15) (v := ?vq16) rfl (by kernel_rfl) (by kernel_rfl) (by kernel_rfl) (fun _ _ _ h => h) (Or.inl ⟨by rfl, ?hq16⟩) (by assumption) ?rq16
            case hq16 => intro w hSw; (try dsimp only at hSw); go_simp <;> with_reducible rfl
            try simp only [Act.put]
            refine wpAnyH_ready (rs := [16]) (by kernel_rfl) (by simp) ?_
            refine AllReadyH.cons rfl (fun K hK => ?_) AllReadyH.nil
            go_simp
            refine hK.out _ _ hSs (fun hHeld => ?_)
            clear hK K
            try simp only [Act.put, List.setIfInBounds_toArray, List.set_cons_zero, List.set_cons_succ]
            refine wpAnyH_done (by kernel_rfl) ?_ _
          case' q14 =>
            go_simp
            refine (l01Below_any R a n cap zs (N : Int) (by omega) w0 _ h (hb0.trans (hHeld.2.2.below hRw hb0.size)) hRw hHeld.2.1 hn).mono ?_
            rintro e wb ⟨xb, rfl, xb0, _, xb1, hCb, hWb⟩
            have xb2 := xb1 (by omega)
            have HIb := HIa.win2 (hWb) hCb
            have lb := HIb.g.c1
            have hSb : wb.cell? ⟨G, 0, none⟩ = some (.int .i64 N) ∧ Cur wb R a n cap ∧ Win R (R + 1) w wb := ⟨HIb.g.c0, hCb, HIb.win⟩
            clear xb1
            refine hK.out _ _ hSb (fun hHeld => ?_)
            clear hK K
            try simp only [Act.put, List.setIfInBounds_toArray, List.set_cons_zero, List.set_cons_succ]
            refine wpAnyH_ready (rs := [1, 11]) (by kernel_rfl) (by simp) ?_
            refine AllReadyH.cons rfl (fun K hK => ?q17) (AllReadyH.cons rfl (fun K hK => ?q18) AllReadyH.nil)
            case' q17 =>
              go_simp
              refine hK.out _ _ hHeld (fun hHeld => ?_)
              clear hK K
              try simp only [Act.put, List.setIfInBounds_toArray, List.set_cons_zero, List.set_cons_succ]
              refine wpAnyH_ready (rs := [11]) (by kernel_rfl) (by simp) ?_
              refine AllReadyH.cons rfl (fun K hK => ?_) AllReadyH.nil
              go_simp
              refine (l01Below_any R a n cap zs 8 (by omega) w0 _ h (hb0.trans (hHeld.2.2.below hRw hb0.size)) hRw hHeld.2.1 hn).mono ?_
              rintro e wc ⟨xc, rfl, xc0, _, xc1, hCc, hWc⟩
              have xc2 := xc1 (by omega)
              have HIc := HIb.win2 (hWc) hCc
              have lc := HIc.g.c1
              have hSc : wc.cell? ⟨G, 0, none⟩ = some (.int .i64 N) ∧ Cur wc R a n cap ∧ Win R (R + 1) w wc := ⟨HIc.g.c0, hCc, HIc.win⟩
              clear xc1
              refine hK.out _ _ hSc (fun hHeld => ?_)
              clear hK K
              try simp only [Act.put, List.setIfInBounds_toArray, List.set_cons_zero, List.set_cons_succ]
              refine wpAnyH_take (i := 12) (v := ?vq19) rfl (by kernel_rfl) (by kernel_rfl) (by kernel_rfl) (fun _ _ _ h => h) (Or.inl ⟨by rfl, ?hq19⟩) (by assumption) ?rq19
              case hq19 => intro w hSw; (try dsimp only at hSw); go_simp <;> with_reducible rfl
              try simp only [Act.put]
              refine wpAnyH_ready (rs := [13]) (by kernel_rfl) (by simp) ?_
              refine AllReadyH.cons rfl (fun K hK => ?_) AllReadyH.nil
              have hal := (Below.refl wc.heap.size wc).alloc (Nat.le_refl _) (.cells #[.int .i64 xa, .int .i64 xb, .int .i64 xc] 52)
              have HIl := Lib.hid (HIc.later hal)
              have ll := HIl.out.g.c1
              have hSl : (wc.alloc (.cells #[.int .i64 xa, .int .i64 xb, .int .i64 xc] 52)).cell? ⟨G, 0, none⟩ = some (.int .i64 N) ∧ Cur (wc.alloc (.cells #[.int .i64 xa, .int .i64 xb, .int .i64 xc] 52)) R a n cap ∧ Win R (R + 1) w (wc.alloc (.cells #[.int .i64 xa, .int .i64 xb, .int .i64 xc] 52)) := ⟨HIl.out.g.c0, HIl.out.cur, HIl.out.win⟩
              go_simp
              refine hK.out _ _ hSl (fun hHeld => ?_)
              clear hK K
              try simp only [Act.put, List.setIfInBounds_toArray, List.set_cons_zero, List.set_cons_succ]
              refine wpAnyH_ready (rs := [14]) (by kernel_rfl) (by simp) ?_
              refine AllReadyH.cons rfl (fun K hK => ?_) AllReadyH.nil
              refine step_append_lies _ (by rfl) _ _ _ (by rfl) (G + 1) 52 i0 (.agg #[.int .i64 0, .int .i64 0, .int .i64 0]) 3 24 Tryd.underlying23 hi hz0 hz1 hz2 rfl (by decide) (.slice A k C) k (ys.flatMap encEdge) (by rfl) (HIl.out.own) ⟨wc.heap.size, 0, none⟩ 1 1 (encEdge ⟨xa, xb, xc⟩) (by rfl) (by rfl) (World.news_of_block (heap_alloc_new wc (.cells #[.int .i64 xa, .int .i64 xb, .int .i64 xc] 52))) (one_edge _) (by decide) (by unfold maxLen; omega) (by omega) (Nat.succ_le_of_lt HIl.out.g.lt) _ rfl ?_
              rintro g9 C9 w9 ho9 hg9 hor9 hlt9
              have hG9 := HIl.out.gk hg9
              have hS9 : w9.cell? ⟨G, 0, none⟩ = some (.int .i64 N) ∧ Cur w9 R a n cap ∧ Win R (R + 1) w w9 := ⟨hG9.c0, HIl.out.ck hg9, HIl.out.wk hg9⟩
              have HP := Lib.hid (HIl.out.put hg9 ho9 (xs := ⟨xa, xb, xc⟩) ⟨⟨xa0, xa2⟩, ⟨xb0, xb2⟩, xc0, xc2⟩)
              have hSs : (w9.setCell ⟨G, 1, none⟩ (.slice (some ⟨g9, 0, none⟩) (k + 1) C9)).cell? ⟨G, 0, none⟩ = some (.int .i64 N) ∧ Cur (w9.setCell ⟨G, 1, none⟩ (.slice (some ⟨g9, 0, none⟩) (k + 1) C9)) R a n cap ∧ Win R (R + 1) w (w9.setCell ⟨G, 1, none⟩ (.slice (some ⟨g9, 0, none⟩) (k + 1) C9)) := ⟨HP.out.g.c0, HP.out.cur, HP.out.win⟩
              obtain ⟨q0, q1, q2, q3⟩ := hG9
              refine hK.out _ _ hS9 (fun hHeld => ?_)
              clear hK K
              try simp only [Act.put, List.setIfInBounds_toArray]
              refine wpAnyH_take (i := 15) (v := ?vq20) rfl (by kernel_rfl) (by kernel_rfl) (by kernel_rfl) (fun _ _ _ h => h) (Or.inl ⟨by rfl, ?hq20⟩) (by assumption) ?rq20
              case hq20 => intro w hSw; (try dsimp only at hSw); go_simp <;> with_reducible rfl
              try simp only [Act.put]
              refine wpAnyH_ready (rs := [16]) (by kernel_rfl) (by simp) ?_
              refine AllReadyH.cons rfl (fun K hK => ?_) AllReadyH.nil
              go_simp
              refine hK.out _ _ hSs (fun hHeld => ?_)
              clear hK K
              try simp only [Act.put, List.setIfInBounds_toArray, List.set_cons_zero, List.set_cons_succ]
              refine wpAnyH_done (by kernel_rfl) ?_ _
            case' q18 =>
              go_simp
              refine (l01Below_any R a n cap zs 8 (by omega) w0 _ h (hb0.trans (hHeld.2.2.below hRw hb0.size)) hRw hHeld.2.1 hn).mono ?_
              rintro e wc ⟨xc, rfl, xc0, _, xc1, hCc, hWc⟩
              have xc2 := xc1 (by omega)
              have HIc := HIb.win2 (hWc) hCc
              have lc := HIc.g.c1
              have hSc : wc.cell? ⟨G, 0, none⟩ = some (.int .i64 N) ∧ Cur wc R a n cap ∧ Win R (R + 1) w wc := ⟨HIc.g.c0, hCc, HIc.win⟩
              clear xc1
              refine hK.out _ _ hSc (fun hHeld => ?_)
              clear hK K
              try simp only [Act.put, List.setIfInBounds_toArray, List.set_cons_zero, List.set_cons_succ]
              refine wpAnyH_take (i := 12) (v := ?vq21) rfl (by kernel_rfl) (by kernel_rfl) (by kernel_rfl) (fun _ _ _ h => h) (Or.inl ⟨by rfl, ?hq21⟩) (by assumption) ?rq21
              case hq21 => intro w hSw; (try dsimp only at hSw); go_simp <;> with_reducible rfl
              try simp only [Act.put]
              refine wpAnyH_ready (rs := [1, 13]) (by kernel_rfl) (by simp) ?_
              refine AllReadyH.cons rfl (fun K hK => ?q22) (AllReadyH.cons rfl (fun K hK => ?q23) AllReadyH.nil)
              case' q22 =>
                go_simp
                refine hK.out _ _ hHeld (fun hHeld => ?_)
                clear hK K
                try simp only [Act.put, List.setIfInBounds_toArray, List.set_cons_zero, List.set_cons_succ]
                refine wpAnyH_ready (rs := [13]) (by kernel_rfl) (by simp) ?_
                refine AllReadyH.cons rfl (fun K hK => ?_) AllReadyH.nil
                have hal := (Below.refl wc.heap.size wc).alloc (Nat.le_refl _) (.cells #[.int .i64 xa, .int .i64 xb, .int .i64 xc] 52)
                have HIl := Lib.hid (HIc.later hal)
                have ll := HIl.out.g.c1
                have hSl : (wc.alloc (.cells #[.int .i64 xa, .int .i64 xb, .int .i64 xc] 52)).cell? ⟨G, 0, none⟩ = some (.int .i64 N) ∧ Cur (wc.alloc (.cells #[.int .i64 xa, .int .i64 xb, .int .i64 xc] 52)) R a n cap ∧ Win R (R + 1) w (wc.alloc (.cells #[.int .i64 xa, .int .i64 xb, .int .i64 xc] 52)) := ⟨HIl.out.g.c0, HIl.out.cur, HIl.out.win⟩
                go_simp
                refine hK.out _ _ hSl (fun hHeld => ?_)
                clear hK K
                try simp only [Act.put, List.setIfInBounds_toArray, List.set_cons_zero, List.set_cons_succ]
                refine wpAnyH_ready (rs := [14]) (by kernel_rfl) (by simp) ?_
                refine AllReadyH.cons rfl (fun K hK => ?_) AllReadyH.nil
                refine step_append_lies _ (by rfl) _ _ _ (by rfl) (G + 1) 52 i0 (.agg #[.int .i64 0, .int .i64 0, .int .i64 0]) 3 24 Tryd.underlying23 hi hz0 hz1 hz2 rfl (by decide) (.slice A k C) k (ys.flatMap encEdge) (by rfl) (HIl.out.own) ⟨wc.heap.size, 0, none⟩ 1 1 (encEdge ⟨xa, xb, xc⟩) (by rfl) (by rfl) (World.news_of_block (heap_alloc_new wc (.cells #[.int .i64 xa, .int .i64 xb, .int .i64 xc] 52))) (one_edge _) (by decide) (by unfold maxLen; omega) (by omega) (Nat.succ_le_of_lt HIl.out.g.lt) _ rfl ?_
                rintro g9 C9 w9 ho9 hg9 hor9 hlt9
                have hG9 := HIl.out.gk hg9
                have hS9 : w9.cell? ⟨G, 0, none⟩ = some (.int .i64 N) ∧ Cur w9 R a n cap ∧ Win R (R + 1) w w9 := ⟨hG9.c0, HIl.out.ck hg9, HIl.out.wk hg9⟩
                have HP := Lib.hid (HIl.out.put hg9 ho9 (xs := ⟨xa, xb, xc⟩) ⟨⟨xa0, xa2⟩, ⟨xb0, xb2⟩, xc0, xc2⟩)
                have hSs : (w9.setCell ⟨G, 1, none⟩ (.slice (some ⟨g9, 0, none⟩) (k + 1) C9)).cell? ⟨G, 0, none⟩ = some (.int .i64 N) ∧ Cur (w9.setCell ⟨G, 1, none⟩ (.slice (some ⟨g9, 0, none⟩) (k + 1) C9)) R a n cap ∧ Win R (R + 1) w (w9.setCell ⟨G, 1, none⟩ (.slice (some ⟨g9, 0, none⟩) (k + 1) C9)) := ⟨HP.out.g.c0, HP.out.cur, HP.out.win⟩
                obtain ⟨q0, q1, q2, q3⟩ := hG9
                refine hK.out _ _ hS9 (fun hHeld => ?_)
                clear hK K
                try simp only [Act.put, List.setIfInBounds_toArray]
                refine wpAnyH_take (i := 15) (v := ?vq24) rfl (by kernel_rfl) (by kernel_rfl) (by kernel_rfl) (fun _ _ _ h => h) (Or.inl ⟨by rfl, ?hq24⟩) (by assumption) ?rq24
                case hq24 => intro w hSw; (try dsimp only at hSw); go_simp <;> with_reducible rfl
                try simp only [Act.put]
                refine wpAnyH_ready (rs := [16]) (by kernel_rfl) (by simp) ?_
                refine AllReadyH.cons rfl (fun K hK => ?_) AllReadyH.nil
                go_simp
                refine hK.out _ _ hSs (fun hHeld => ?_)
                clear hK K
                try simp only [Act.put, List.setIfInBounds_toArray, List.set_cons_zero, List.set_cons_succ]
                refine wpAnyH_done (by kernel_rfl) ?_ _
              case' q23 =>
                have hal := (Below.refl wc.heap.size wc).alloc (Nat.le_refl _) (.cells #[.int .i64 xa, .int .i64 xb, .int .i64 xc] 52)
                have HIl := Lib.hid (HIc.later hal)
                have ll := HIl.out.g.c1
                have hSl : (wc.alloc (.cells #[.int .i64 xa, .int .i64 xb, .int .i64 xc] 52)).cell? ⟨G, 0, none⟩ = some (.int .i64 N) ∧ Cur (wc.alloc (.cells #[.int .i64 xa, .int .i64 xb, .int .i64 xc] 52)) R a n cap ∧ Win R (R + 1) w (wc.alloc (.cells #[.int .i64 xa, .int .i64 xb, .int .i64 xc] 52)) := ⟨HIl.out.g.c0, HIl.out.cur, HIl.out.win⟩
                go_simp
                refine hK.out _ _ hSl (fun hHeld => ?_)
                clear hK K
                try simp only [Act.put, List.setIfInBounds_toArray, List.set_cons_zero, List.set_cons_succ]
                refine wpAnyH_ready (rs := [1]) (by kernel_rfl) (by simp) ?_
                refine AllReadyH.cons rfl (fun K hK => ?_) AllReadyH.nil
                go_simp
                refine hK.out _ _ hHeld (fun hHeld => ?_)
                clear hK K
                try simp only [Act.put, List.setIfInBounds_toArray, List.set_cons_zero, List.set_cons_succ]
                refine wpAnyH_ready (rs := [14]) (by kernel_rfl) (by simp) ?_
                refine AllReadyH.cons rfl (fun K hK => ?_) AllReadyH.nil
                refine step_append_lies _ (by rfl) _ _ _ (by rfl) (G + 1) 52 i0 (.agg #[.int .i64 0, .int .i64 0, .int .i64 0]) 3 24 Tryd.underlying23 hi hz0 hz1 hz2 rfl (by decide) (.slice A k C) k (ys.flatMap encEdge) (by rfl) (HIl.out.own) ⟨wc.heap.size, 0, none⟩ 1 1 (encEdge ⟨xa, xb, xc⟩) (by rfl) (by rfl) (World.news_of_block (heap_alloc_new wc (.cells #[.int .i64 xa, .int .i64 xb, .int .i64 xc] 52))) (one_edge _) (by decide) (by unfold maxLen; omega) (by omega) (Nat.succ_le_of_lt HIl.out.g.lt) _ rfl ?_
                rintro g9 C9 w9 ho9 hg9 hor9 hlt9
                have hG9 := HIl.out.gk hg9
                have hS9 : w9.cell? ⟨G, 0, none⟩ = some (.int .i64 N) ∧ Cur w9 R a n cap ∧ Win R (R + 1) w w9 := ⟨hG9.c0, HIl.out.ck hg9, HIl.out.wk hg9⟩
                have HP := Lib.hid (HIl.out.put hg9 ho9 (xs := ⟨xa, xb, xc⟩) ⟨⟨xa0, xa2⟩, ⟨xb0, xb2⟩, xc0, xc2⟩)
                have hSs : (w9.setCell ⟨G, 1, none⟩ (.slice (some ⟨g9, 0, none⟩) (k + 1) C9)).cell? ⟨G, 0, none⟩ = some (.int .i64 N) ∧ Cur (w9.setCell ⟨G, 1, none⟩ (.slice (some ⟨g9, 0, none⟩) (k + 1) C9)) R a n cap ∧ Win R (R + 1) w (w9.setCell ⟨G, 1, none⟩ (.slice (some ⟨g9, 0, none⟩) (k + 1) C9)) := ⟨HP.out.g.c0, HP.out.cur, HP.out.win⟩
                obtain ⟨q0, q1, q2, q3⟩ := hG9
                refine hK.out _ _ hS9 (fun hHeld => ?_)
                clear hK K
                try simp only [Act.put, List.setIfInBounds_toArray]
                refine wpAnyH_take (i := 15) (v := ?vq25) rfl (by kernel_rfl) (by kernel_rfl) (by kernel_rfl) (fun _ _ _ h => h) (Or.inl ⟨by rfl, ?hq25⟩) (by assumption) ?rq25
                case hq25 => intro w hSw; (try dsimp only at hSw); go_simp <;> with_reducible rfl
                try simp only [Act.put]
                refine wpAnyH_ready (rs := [16]) (by kernel_rfl) (by simp) ?_
                refine AllReadyH.cons rfl (fun K hK => ?_) AllReadyH.nil
                go_simp
                refine hK.out _ _ hSs (fun hHeld => ?_)
                clear hK K
                try simp only [Act.put, List.setIfInBounds_toArray, List.set_cons_zero, List.set_cons_succ]
                refine wpAnyH_done (by kernel_rfl) ?_ _
        all_goals
          clear q0 q1 q2 q3 hS9 hSs ho9 hg9 hor9 hlt9 HIl
          have hin : wrap64 (((M - k : Nat) : Int) - 1) = ((M - (k + 1) : Nat) : Int) := by rw [IntWalk.wrap64_in _ ⟨by omega, by omega⟩]; omega
          have hin2 : ((M - k : Nat) : Int) - 1 = ((M - (k + 1) : Nat) : Int) := by omega
          go_wp2
          go_roundw
          case rel => exact ⟨k + 1, _, _, _, by omega, by first | rfl | (congr 1), HP⟩
          case measure => simp [intOf]; omega
      · obtain rfl : k = M := by omega
        have hki : ¬ (0 : Int) < ((k - k : Nat) : Int) := by omega
        have hzg := HI.out.zg
        have hgl := HI.out.g.lt
        have hbs : Below w.heap.size wr ((wr.setCell ⟨w.heap.size, 0, none⟩ (.int .i64 N)).setCell ⟨w.heap.size, 1, none⟩ (.slice A k C)) := ((Below.refl w.heap.size wr).setCell (p := ⟨w.heap.size, 0, none⟩) (Nat.le_refl _) _).setCell (p := ⟨w.heap.size, 1, none⟩) (Nat.le_refl _) _
        have hk0 : ∀ b, b ≠ w.heap.size → ((wr.setCell ⟨w.heap.size, 0, none⟩ (.int .i64 N)).setCell ⟨w.heap.size, 1, none⟩ (.slice A k C)).heap[b]? = wr.heap[b]? := fun b hb => by rw [Below.heap_setCell _ _ _ _ hb, Below.heap_setCell _ _ _ _ hb]
        have hzS := (HI.out.z.setN N).setE A k C
        have HF := Lib.hid (show RetGD R a n cap w (.returned (.agg #[.int .i64 N, .slice A k C])) ((wr.setCell ⟨w.heap.size, 0, none⟩ (.int .i64 N)).setCell ⟨w.heap.size, 1, none⟩ (.slice A k C)) from
          ⟨⟨N, A, k, C, ys⟩, rfl, ⟨OwnS.of (own_base (own_keep' HI.out.own (fun g hg => hk0 g (by have := (World.ownsRow.lt HI.out.own g hg).1; omega))) (by omega)) HI.out.len (show k ≤ _ by omega), Nat.le_refl _⟩, ⟨by show (0 : Int) ≤ N; omega, by show (N : Int) ≤ 8; omega⟩, by show k ≤ 13; omega, HI.out.all, HI.out.cur.keep (hk0 R (by omega)), HI.out.win.then_below hbs⟩)
        obtain ⟨g0, g1, g2, g3⟩ := HI.out.g
        obtain ⟨z0, z1, z2, z3⟩ := HI.out.z
        obtain ⟨y0, y1, y2, y3⟩ := hzS
        clear hbs hk0
        go_wp2
        refine bodyPost_ret (v := .agg #[.int .i64 N, .slice A k C]) (by simp [results, Tryd.results15, go_sem, y0, y1]) rfl ?_
        exact HF.out
end Go.Proofs.YthffmjeodoinlaaDoor

/- Graphs that are made. -/
namespace Go.Proofs.YthffmjeodoinlaaDoor
open Go.RowKit
/-- A graph that is made of the code. -/
def RetMG (w : World) (en : Ending) (w' : World) : Prop := ∃ y : GraphR, en = .returned (.agg #[.int .i64 y.n, .slice y.edgesA y.edgesN y.edgesC]) ∧ OwnGraph w.heap.size w'.heap.size w' y ∧ (1 ≤ y.n ∧ y.n ≤ 8) ∧ y.edgesN ≤ 13 ∧ (∀ e ∈ y.edges, mgE y.n e) ∧ Below w.heap.size w w'
set_option maxRecDepth 100000 in
set_option maxHeartbeats 3200000 in
theorem makeGraph_any (a : Option Addr) (n cap : Nat) (zs : List Int) (w : World) (h : Rd (encI .u8) 1 w a n cap zs) (hn : n ≤ 1048576) :
    Calls Tryd.prog 4 #[.slice a n cap] w fun e w' => RetMG w e w' := by
  have ha0 := (Below.refl w.heap.size w).alloc (Nat.le_refl _) (.cells #[.int .i64 0, .slice none 0 0] 25)
  have hz := GCell.new w 25 0 none 0 0
  have hs0 : (w.alloc (.cells #[.int .i64 0, .slice none 0 0] 25)).heap.size = w.heap.size + 1 := by simp
  have h0 := h.below ha0 (Nat.le_refl _)
  go_enter Tryd.func4, Tryd.ntmps4
  go_wp2_with fail
  refine (l01New_any a n cap zs _ h0 hn).mono ?_
  rintro e w1 ⟨R, rfl, hR, hC, hb⟩
  rw [hs0] at hR
  have hb1 := ha0.trans (hb.mono ha0.size)
  have hz1 := hz.below hb
  have h1 := h.below hb1 (Nat.le_refl _)
  clear hz h0 ha0
  go_wp2_with fail
  refine (l04Draw_any R a n cap zs w w1 h hb1 (by omega) hC hn).mono ?_
  rintro e w2 ⟨y, rfl, ho, ⟨hn0, hn8⟩, hm, hall, _, hW⟩
  have hzl1 := hz1.lt
  have hz2 := hz1.win hW (Or.inl (by omega))
  have hb2 := hb1.trans (hW.below (by omega) hb1.size)
  have hs1 := hb1.size
  have hs2 := hW.size
  have hzl := hz2.lt
  have hol := Lib.hid (fun g hg => (World.ownsRow.lt ho.row.own g hg).1)
  obtain ⟨yn, yA, yN, yC, yl⟩ := y
  simp only at hn0 hn8 hm hall hol
  have fin : ∀ (v : Int) (wF : World), 1 ≤ v → v ≤ 8 → (∀ e ∈ yl, mgE v e) → (∀ b, b < w2.heap.size → b ≠ w.heap.size → wF.heap[b]? = w2.heap[b]?) → w2.heap.size ≤ wF.heap.size → Below w.heap.size w wF → RetMG w (.returned (.agg #[.int .i64 v, .slice yA yN yC])) wF := by
    intro v wF hv1 hv8 hall2 hk hsz hbF
    refine ⟨⟨v, yA, yN, yC, yl⟩, rfl, ⟨OwnS.of (own_base (own_keep' ho.row.own (fun g hg => hk g (by have := ho.row.lt g hg; omega) (by have := hol.out g hg; omega))) hs1) ho.row.len (show yN ≤ _ by omega), Nat.le_refl _⟩, ⟨hv1, hv8⟩, hm, hall2, hbF⟩
  have FIN := Lib.hid fin
  clear fin hz1 hb hC h1
  by_cases hN : yn = 0
  · subst hN
    have hl0 : yl = [] := by
      cases yl with
      | nil => rfl
      | cons e r => have := (hall e (by simp)).1; omega
    have hzS := (hz2.setN 1).setE yA yN yC
    have hal := (Below.refl ((w2.setCell ⟨w.heap.size, 0, none⟩ (.int .i64 1)).setCell ⟨w.heap.size, 1, none⟩ (.slice yA yN yC)).heap.size ((w2.setCell ⟨w.heap.size, 0, none⟩ (.int .i64 1)).setCell ⟨w.heap.size, 1, none⟩ (.slice yA yN yC))).alloc (Nat.le_refl _) (.cells #[.int .i64 1, .slice yA yN yC] 25)
    have hzF := hzS.below hal
    have hk : ∀ b, b < w2.heap.size → b ≠ w.heap.size → (((w2.setCell ⟨w.heap.size, 0, none⟩ (.int .i64 1)).setCell ⟨w.heap.size, 1, none⟩ (.slice yA yN yC)).alloc (.cells #[.int .i64 1, .slice yA yN yC] 25)).heap[b]? = w2.heap[b]? := fun b hb1 hb2 => by
      rw [hal.block b (by simpa using hb1), Below.heap_setCell _ _ _ _ hb2, Below.heap_setCell _ _ _ _ hb2]
    have hbF := hb2.trans ((((Below.refl w.heap.size w2).setCell (p := ⟨w.heap.size, 0, none⟩) (Nat.le_refl _) (.int .i64 1)).setCell (p := ⟨w.heap.size, 1, none⟩) (Nat.le_refl _) (.slice yA yN yC)).trans (hal.mono (by simp; omega)))
    have HF := Lib.hid (FIN.out 1 _ (by omega) (by omega) (by rw [hl0]; intro e he; simp at he) hk (by simp) hbF)
    obtain ⟨z0, z1, z2, z3⟩ := hz2
    obtain ⟨y0, y1, y2, y3⟩ := hzF
    clear hk hbF hal hzS
    go_wp2
    refine bodyPost_ret (v := .agg #[.int .i64 1, .slice yA yN yC]) (by simp [results, Tryd.results4, go_sem, y0, y1]) rfl ?_
    exact HF.out
  · have hN1 : (yn == 0) = false := by simp; omega
    have hzS := (hz2.setN yn).setE yA yN yC
    have hal := (Below.refl ((w2.setCell ⟨w.heap.size, 0, none⟩ (.int .i64 yn)).setCell ⟨w.heap.size, 1, none⟩ (.slice yA yN yC)).heap.size ((w2.setCell ⟨w.heap.size, 0, none⟩ (.int .i64 yn)).setCell ⟨w.heap.size, 1, none⟩ (.slice yA yN yC))).alloc (Nat.le_refl _) (.cells #[.int .i64 yn, .slice yA yN yC] 25)
    have hzF := hzS.below hal
    have hk : ∀ b, b < w2.heap.size → b ≠ w.heap.size → (((w2.setCell ⟨w.heap.size, 0, none⟩ (.int .i64 yn)).setCell ⟨w.heap.size, 1, none⟩ (.slice yA yN yC)).alloc (.cells #[.int .i64 yn, .slice yA yN yC] 25)).heap[b]? = w2.heap[b]? := fun b hb1 hb2 => by
      rw [hal.block b (by simpa using hb1), Below.heap_setCell _ _ _ _ hb2, Below.heap_setCell _ _ _ _ hb2]
    have hbF := hb2.trans ((((Below.refl w.heap.size w2).setCell (p := ⟨w.heap.size, 0, none⟩) (Nat.le_refl _) (.int .i64 yn)).setCell (p := ⟨w.heap.size, 1, none⟩) (Nat.le_refl _) (.slice yA yN yC)).trans (hal.mono (by simp; omega)))
    have HF := Lib.hid (FIN.out yn _ (by omega) hn8 hall hk (by simp) hbF)
    obtain ⟨z0, z1, z2, z3⟩ := hz2
    obtain ⟨y0, y1, y2, y3⟩ := hzF
    clear hk hbF hal hzS
    go_wp2
    refine bodyPost_ret (v := .agg #[.int .i64 yn, .slice yA yN yC]) (by simp [results, Tryd.results4, go_sem, y0, y1]) rfl ?_
    exact HF.out
end Go.Proofs.YthffmjeodoinlaaDoor

/- Shards: the plain function. -/
namespace Go.Proofs.YthffmjeodoinlaaDoor
open Go.RowKit
def recOf (es : List Int) (xs : List EdgeR) (i : Nat) : RecR := ⟨ivI es (edgeAt xs i).to, (edgeAt xs i).fr, i⟩
def recsTo (es : List Int) (xs : List EdgeR) (k : Nat) : List RecR := (List.range k).map (recOf es xs)
theorem recsTo_succ (es : List Int) (xs : List EdgeR) (k : Nat) : recsTo es xs (k + 1) = recsTo es xs k ++ [recOf es xs k] := by unfold recsTo; rw [List.range_succ, List.map_append]; rfl
theorem len_recsTo (es : List Int) (xs : List EdgeR) (k : Nat) : (recsTo es xs k).length = k := by simp [recsTo]
def sedgeOf (xs : List EdgeR) (r : RecR) : SEdgeR := ⟨(edgeAt xs r.c.toNat).fr, (edgeAt xs r.c.toNat).to, (edgeAt xs r.c.toNat).wt, r.c, 0⟩
def innerOf (xs : List EdgeR) (p : Nat) (L : List RecR) : List SEdgeR := (L.filter fun r => decide (r.a = (p : Int))).map (sedgeOf xs)
theorem innerOf_hit (xs : List EdgeR) (p : Nat) (L : List RecR) (r : RecR) (h : r.a = (p : Int)) : innerOf xs p (L ++ [r]) = innerOf xs p L ++ [sedgeOf xs r] := by
  unfold innerOf; rw [List.filter_append, List.map_append]; simp [h]
theorem innerOf_miss (xs : List EdgeR) (p : Nat) (L : List RecR) (r : RecR) (h : ¬ r.a = (p : Int)) : innerOf xs p (L ++ [r]) = innerOf xs p L := by
  unfold innerOf; rw [List.filter_append, List.map_append]; simp [h]
theorem len_innerOf (xs : List EdgeR) (p : Nat) (L : List RecR) : (innerOf xs p L).length ≤ L.length := by
  unfold innerOf; rw [List.length_map]; exact List.length_filter_le _ _
def shardOf (es : List Int) (xs : List EdgeR) (L : List RecR) (p : Nat) : Int × Int × List SEdgeR := ((spanI es p).1, (spanI es p).2, innerOf xs p L)
def dealtTo (es : List Int) (xs : List EdgeR) (L : List RecR) (q : Nat) : List (Int × Int × List SEdgeR) := (List.range q).map (shardOf es xs L)
theorem dealtTo_succ (es : List Int) (xs : List EdgeR) (L : List RecR) (q : Nat) : dealtTo es xs L (q + 1) = dealtTo es xs L q ++ [shardOf es xs L q] := by unfold dealtTo; rw [List.range_succ, List.map_append]; rfl
theorem len_dealtTo (es : List Int) (xs : List EdgeR) (L : List RecR) (q : Nat) : (dealtTo es xs L q).length = q := by simp [dealtTo]
theorem dealtTo_get (es : List Int) (xs : List EdgeR) (L : List RecR) (q p : Nat) (h : p < (dealtTo es xs L q).length) : (dealtTo es xs L q)[p] = shardOf es xs L p := by simp [dealtTo]
theorem dealtTo_set (es : List Int) (xs : List EdgeR) (L : List RecR) (q p : Nat) (r : RecR) (h : r.a = (p : Int)) : (dealtTo es xs L q).set p ((spanI es p).1, (spanI es p).2, innerOf xs p L ++ [sedgeOf xs r]) = dealtTo es xs (L ++ [r]) q := by
  apply List.ext_getElem
  · simp [dealtTo]
  · intro i h1 h2
    rw [List.getElem_set, dealtTo_get, dealtTo_get]
    by_cases e : p = i
    · subst e
      rw [if_pos rfl]
      unfold shardOf
      rw [innerOf_hit xs p L r h]
    · rw [if_neg e]
      unfold shardOf
      rw [innerOf_miss xs i L r (by rw [h]; omega)]
def sortedOf (es : List Int) (xs : List EdgeR) (size : Int) : List RecR := mergeF (batF (recsTo es xs xs.length) size)
def shardsF (n : Int) (xs : List EdgeR) (es : List Int) (size : Int) : List (Int × Int × List SEdgeR) := if graphB n xs = true ∧ endsB n es = true ∧ 1 ≤ size then dealtTo es xs (sortedOf es xs size) es.length else []
theorem shardsF_no {n : Int} {xs : List EdgeR} {es : List Int} {size : Int} (h : ¬ (graphB n xs = true ∧ endsB n es = true ∧ 1 ≤ size)) : shardsF n xs es size = [] := if_neg h
theorem shardsF_yes {n : Int} {xs : List EdgeR} {es : List Int} {size : Int} (h : graphB n xs = true) (h2 : endsB n es = true) (h3 : 1 ≤ size) : shardsF n xs es size = dealtTo es xs (sortedOf es xs size) es.length := if_pos ⟨h, h2, h3⟩
/-- What a record of the sorted row is. -/
structure RecIn (es : List Int) (xs : List EdgeR) (r : RecR) : Prop where
  a : ∃ p : Nat, r.a = (p : Int) ∧ p < es.length
  c : ∃ c : Nat, r.c = (c : Int) ∧ c < xs.length
theorem sorted_in {n : Int} {es : List Int} {xs : List EdgeR} {size : Int} (hg : graphB n xs = true) (he : endsB n es = true) (hs : 1 ≤ size) : ∀ r ∈ sortedOf es xs size, RecIn es xs r := by
  intro r hr
  unfold sortedOf at hr
  rw [sortAll_eq _ _ hs] at hr
  have hr2 : r ∈ recsTo es xs xs.length := (List.mergeSort_perm _ _).mem_iff.1 hr
  unfold recsTo at hr2
  rw [List.mem_map] at hr2
  obtain ⟨i, hi, rfl⟩ := hr2
  rw [List.mem_range] at hi
  obtain ⟨_, _, _, q4⟩ := graphB_yes hg
  obtain ⟨_, _, r3, r4, _, _⟩ := edgeB_yes (q4 i hi)
  exact ⟨iv_in he r3 r4, i, rfl, hi⟩
theorem sorted_len (es : List Int) (xs : List EdgeR) {size : Int} (hs : 1 ≤ size) : (sortedOf es xs size).length = xs.length := by
  unfold sortedOf
  rw [sortAll_eq _ _ hs, len_sortL, len_recsTo]
theorem incB_len : ∀ (zs : List Int) (l m : Int), incB l zs = some m → l + zs.length ≤ m := by
  intro zs
  induction zs with
  | nil => intro l m h; simp only [incB, Option.some.injEq] at h; subst h; simp
  | cons z r ih =>
    intro l m h
    simp only [incB] at h
    split at h
    · cases h
    · have := ih z m h
      rw [List.length_cons]
      omega
theorem ends_len {n : Int} {es : List Int} (h : endsB n es = true) : es.length ≤ 150 := by
  obtain ⟨_, h2, h3⟩ := endsB_yes h
  have := incB_len es 0 n h3
  omega
theorem sum_le {α : Type} (f : α → Nat) (B : Nat) : ∀ l : List α, (∀ x ∈ l, f x ≤ B) → (l.map f).sum ≤ l.length * B := by
  intro l
  induction l with
  | nil => intro _; simp
  | cons a r ih =>
    intro h
    have h1 := h a (by simp)
    have h2 := ih (fun x hx => h x (by simp [hx]))
    simp only [List.map_cons, List.sum_cons, List.length_cons]
    have : (r.length + 1) * B = r.length * B + B := by rw [Nat.add_mul, Nat.one_mul]
    omega
theorem flat_put1 {α : Type} {enc : α → List Value} {sz : Nat} (hs : ∀ x, (enc x).length = sz) : ∀ (xs : List α) (k : Nat) (hk : k < xs.length) (f : Nat) (_hf : f < sz) (v : Value) (y : α), enc y = (enc xs[k]).set f v → (xs.flatMap enc).set (k * sz + f) v = (xs.set k y).flatMap enc := by
  intro xs
  induction xs with
  | nil => intro k hk; exact absurd hk (by simp)
  | cons x r ih =>
    intro k hk f hf v y hy
    rw [List.flatMap_cons]
    cases k with
    | zero =>
      rw [List.set_append_left _ _ (by rw [hs]; omega), List.set_cons_zero, List.flatMap_cons, hy]
      simp
    | succ k =>
      rw [List.set_append_right _ _ (by rw [hs, Nat.succ_mul]; omega), hs, show (k + 1) * sz + f - sz = k * sz + f from by rw [Nat.succ_mul]; omega, List.set_cons_succ, List.flatMap_cons, ih k (by simpa using hk) f hf v y (by simpa using hy)]
/-- The outer row of a walk: its data, its size. -/
structure ShInv (lo : Nat) (w : World) (y : Row ShardR) (D : List (Int × Int × List SEdgeR)) : Prop where
  own : OwnShardS lo w.heap.size w y
  dat : datShardS y = D
theorem ShInv.n {lo : Nat} {w : World} {y : Row ShardR} {D : List (Int × Int × List SEdgeR)} (h : ShInv lo w y D) : y.n = D.length := by
  rw [← h.dat, ← h.own.nest.row.len]; unfold datShardS; rw [List.length_map]
theorem ShInv.below {lo : Nat} {w w' : World} {y : Row ShardR} {D : List (Int × Int × List SEdgeR)} (h : ShInv lo w y D) (hb : Below w.heap.size w w') : ShInv lo w' y D :=
  ⟨⟨(h.own.nest.below hb).grow hb.size (Nat.le_refl _)⟩, h.dat⟩
theorem ShInv.bulk {lo : Nat} {w : World} {y : Row ShardR} {es : List Int} {xs : List EdgeR} {L : List RecR} (h : ShInv lo w y (dealtTo es xs L es.length)) (h1 : es.length ≤ 150) (h2 : L.length ≤ 400) : bulkShardS y ≤ 1048576 := by
  have hn := h.n
  rw [len_dealtTo] at hn
  unfold bulkShardS preShard
  rw [List.take_length]
  have hs : (y.l.map bulkShard).sum ≤ y.l.length * 400 := by
    apply sum_le
    intro x hx
    obtain ⟨i, hi, rfl⟩ := List.getElem_of_mem hx
    have hl := (h.own.nest.inner i hi).len
    have hd : (datShardS y)[i]? = some (datShard y.l[i]) := by unfold datShardS; rw [List.getElem?_map, List.getElem?_eq_getElem hi]; rfl
    rw [h.dat] at hd
    obtain ⟨h3, h4⟩ := List.getElem?_eq_some_iff.1 hd
    rw [dealtTo_get] at h4
    have h5 : y.l[i].edges = innerOf xs i L := by
      have := congrArg (fun t => t.2.2) h4
      exact this.symm
    unfold bulkShard
    have h6 := len_innerOf xs i L
    have h7 : y.l[i].edges.length = y.l[i].edgesN := hl
    rw [h5] at h7
    omega
  have hl := h.own.nest.row.len
  rw [hl, hn] at hs
  omega
/-- One shard more. -/
theorem ShInv.snoc {lo : Nat} {W0 w2 : World} {y : Row ShardR} {D : List (Int × Int × List SEdgeR)} (h : ShInv lo W0 y D) (x : ShardR) (A2 : Option Addr) (C2 : Nat)
    (hin : OwnS encSEdge 5 60 lo W0.heap.size W0 x.edgesA x.edgesN x.edgesC x.edges)
    (ho2 : w2.ownsRow lo 38 3 (.slice A2 (y.n + 1) C2) (y.n + 1) (y.l.flatMap encShard ++ encShard x)) (hg2 : W0.grownBy w2 (Value.slice y.a y.n y.c).ownBlock)
    (hnew : (Value.slice A2 (y.n + 1) C2).ownBlock = (Value.slice y.a y.n y.c).ownBlock ∨ ∀ g, (Value.slice A2 (y.n + 1) C2).ownBlock = some g → W0.heap.size ≤ g)
    (hsm : y.n < 1000000)
    (hap : ∀ g, (Value.slice x.edgesA x.edgesN x.edgesC).ownBlock = some g → blkR y ≠ some g ∧ ∀ i (hi0 : i < y.l.length), blkR (slShard y.l[i]) ≠ some g) :
    ShInv lo w2 ⟨A2, y.n + 1, C2, y.l ++ [x]⟩ (D ++ [datShard x]) := by
  have hyl := h.own.nest.row.len
  have hsn := h.own.nest.snoc x A2 C2 (OwnS.of (by rw [List.flatMap_append]; simpa using ho2) (by simp; omega) (show y.n + 1 ≤ _ by omega)) hin hg2 hnew
    (fun g hg => (hap g hg).1) (fun i hi0 g hg e => (hap g e).2 i hi0 hg) hg2.size (Nat.le_refl _)
  refine ⟨⟨hsn⟩, ?_⟩
  have := h.dat
  unfold datShardS at this ⊢
  simp only [List.map_append, List.map_cons, List.map_nil, this]
/-- One shard's row of edges written anew. -/
theorem ShInv.put {lo : Nat} {w w2 : World} {y : Row ShardR} {D : List (Int × Int × List SEdgeR)} (h : ShInv lo w y D) (p g : Nat) (hp : p < y.l.length) (hy : y.a = some ⟨g, 0, none⟩) (A2 : Option Addr) (C2 : Nat) (e : SEdgeR)
    (ho2 : w2.ownsRow lo 60 5 (.slice A2 (y.l[p].edgesN + 1) C2) (y.l[p].edgesN + 1) (y.l[p].edges.flatMap encSEdge ++ encSEdge e))
    (hg2 : w.grownBy w2 (Value.slice y.l[p].edgesA y.l[p].edgesN y.l[p].edgesC).ownBlock)
    (hnew : (Value.slice A2 (y.l[p].edgesN + 1) C2).ownBlock = (Value.slice y.l[p].edgesA y.l[p].edgesN y.l[p].edgesC).ownBlock ∨ ∀ g, (Value.slice A2 (y.l[p].edgesN + 1) C2).ownBlock = some g → w.heap.size ≤ g)
    (hsm : y.l[p].edgesN < 1000000) :
    ShInv lo (w2.setCell ⟨g, p * 3 + 2, none⟩ (.slice A2 (y.l[p].edgesN + 1) C2)) ⟨y.a, y.n, y.c, y.l.set p ⟨y.l[p].lo, y.l[p].hi, A2, y.l[p].edgesN + 1, C2, y.l[p].edges ++ [e]⟩⟩ (D.set p (y.l[p].lo, y.l[p].hi, y.l[p].edges ++ [e])) := by
  have hyb : blkR y = some g := by unfold blkR; rw [hy]; rfl
  have hrl := h.own.nest.row.lt g hyb
  have hil := h.own.nest.inner p hp
  have hap := h.own.nest.apart p hp
  have hrow0 : w2.ownsRow lo 38 3 (.slice y.a y.n y.c) y.n (y.l.flatMap encShard) := by
    refine own_keep h.own.nest.row.own (fun q hq => ?_)
    have e1 : blkR y = some q := hq
    refine hg2.block q (h.own.nest.row.lt q hq) (fun e2 => hap q e2.symm e1)
  have hxs : (y.l.flatMap encShard).length = y.n * 3 := hrow0.1
  have hset := flat_put1 (sz := 3) lenShard y.l p hp 2 (by omega) (.slice A2 (y.l[p].edgesN + 1) C2) ⟨y.l[p].lo, y.l[p].hi, A2, y.l[p].edgesN + 1, C2, y.l[p].edges ++ [e]⟩ rfl
  rw [hy] at hrow0
  have hst := (hrow0.stored (p * 3 + 2) (.slice A2 (y.l[p].edgesN + 1) C2)).1
  rw [hset, ← hy] at hst
  have hlo := (World.ownsRow.lt h.own.nest.row.own g hyb).1
  have hs2 := hg2.size
  have hgp : ∀ q, (Value.slice A2 (y.l[p].edgesN + 1) C2).ownBlock = some q → q ≠ g := by
    intro q hq e1
    subst e1
    rcases hnew with h1 | h1
    · rw [h1] at hq; exact hap q hq hyb
    · have := h1 q hq; omega
  have hkp := hst.lt
  refine ⟨⟨h.own.nest.put p hp ⟨y.l[p].lo, y.l[p].hi, A2, y.l[p].edgesN + 1, C2, y.l[p].edges ++ [e]⟩ ?_ ?_ ?_ ?_ (by simpa using hs2) (Nat.le_refl _)⟩, ?_⟩
  · exact OwnS.of (by simpa using hst) (by rw [List.length_set]; exact h.own.nest.row.len) h.own.nest.row.small
  · refine OwnS.of (own_keep (by show w2.ownsRow lo 60 5 (.slice A2 (y.l[p].edgesN + 1) C2) (y.l[p].edgesN + 1) ((y.l[p].edges ++ [e]).flatMap encSEdge); rw [List.flatMap_append]; simpa using ho2) (fun q hq => Below.heap_setCell _ _ _ _ (hgp q hq))) ?_ (show y.l[p].edgesN + 1 ≤ _ by omega)
    have : y.l[p].edges.length = y.l[p].edgesN := hil.len
    simp [slShard, this]
  · intro q hq
    rcases hnew with h1 | h1
    · left; have hq' : (Value.slice A2 (y.l[p].edgesN + 1) C2).ownBlock = some q := hq; rw [h1] at hq'; exact hq'
    · right; exact h1 q hq
  · intro q hq hne hne2
    rw [Below.heap_setCell _ _ _ _ (fun e1 => hne (by rw [hyb, e1]))]
    exact hg2.block q hq (fun e2 => hne2 e2.symm)
  · have := h.dat
    unfold datShardS at this ⊢
    simp only [List.map_set, this]
    rfl
theorem ShInv.put2 {lo : Nat} {w w2 : World} {y : Row ShardR} {D : List (Int × Int × List SEdgeR)} (h : ShInv lo w y D) (p g : Nat) (hp : p < y.l.length) (v : ShardR) (hv : y.l[p] = v) (hy : y.a = some ⟨g, 0, none⟩) (A2 : Option Addr) (C2 : Nat) (e : SEdgeR)
    (ho2 : w2.ownsRow lo 60 5 (.slice A2 (v.edgesN + 1) C2) (v.edgesN + 1) (v.edges.flatMap encSEdge ++ encSEdge e))
    (hg2 : w.grownBy w2 (Value.slice v.edgesA v.edgesN v.edgesC).ownBlock)
    (hnew : (Value.slice A2 (v.edgesN + 1) C2).ownBlock = (Value.slice v.edgesA v.edgesN v.edgesC).ownBlock ∨ ∀ g, (Value.slice A2 (v.edgesN + 1) C2).ownBlock = some g → w.heap.size ≤ g)
    (hsm : v.edgesN < 1000000) :
    ShInv lo (w2.setCell ⟨g, p * 3 + 2, none⟩ (.slice A2 (v.edgesN + 1) C2)) ⟨y.a, y.n, y.c, y.l.set p ⟨v.lo, v.hi, A2, v.edgesN + 1, C2, v.edges ++ [e]⟩⟩ (D.set p (v.lo, v.hi, v.edges ++ [e])) := by
  subst hv
  exact h.put p g hp hy A2 C2 e ho2 hg2 hnew hsm
end Go.Proofs.YthffmjeodoinlaaDoor

/- Joined of the shards of a graph is the graph: plain. -/
namespace Go.Proofs.YthffmjeodoinlaaDoor
theorem plcs_ok {n : Int} {M : Nat} {xs : List EdgeR} (_hx : xs.length = M) : ∀ (E : List SEdgeR) (g : List EdgeR) (s : List Bool), g.length = M → s.length = M →
    (∀ e ∈ E, ∃ c : Nat, c < M ∧ e.ix = (c : Int) ∧ e.fr < n ∧ (⟨e.fr, e.to, e.wt⟩ : EdgeR) = edgeAt xs c ∧ s.getD c false = false) → E.Pairwise (fun a b => a.ix ≠ b.ix) →
    ∃ g', plc n M E g s = (true, g') ∧ g'.length = M ∧ ∀ i, i < M → g'.getD i ⟨0, 0, 0⟩ = if (∃ e ∈ E, e.ix = (i : Int)) then edgeAt xs i else g.getD i ⟨0, 0, 0⟩ := by
  intro E
  induction E with
  | nil => intro g s hg _ _ _; exact ⟨g, rfl, hg, fun i _ => by simp⟩
  | cons e r ih =>
    intro g s hg hs hE hp
    obtain ⟨c, hc, hix, hfr, hed, hse⟩ := hE e (by simp)
    rw [List.pairwise_cons] at hp
    have hbad : jBad n M e s = false := by
      unfold jBad
      rw [hix, Int.toNat_natCast, hse]
      simp
      omega
    obtain ⟨g', h1, h2, h3⟩ := ih (g.set c ⟨e.fr, e.to, e.wt⟩) (s.set c true) (by simpa using hg) (by simpa using hs) (fun e2 he2 => by
      obtain ⟨c2, k1, k2, k3, k4, k5⟩ := hE e2 (by simp [he2])
      refine ⟨c2, k1, k2, k3, k4, ?_⟩
      have hne : c ≠ c2 := fun e3 => hp.1 e2 he2 (by rw [hix, k2, e3])
      rw [List.getD_eq_getElem?_getD, List.getElem?_set_ne hne, ← List.getD_eq_getElem?_getD]
      exact k5) hp.2
    refine ⟨g', by simp only [plc, hbad, hix, Int.toNat_natCast]; exact h1, h2, fun i hi => ?_⟩
    rw [h3 i hi]
    by_cases hr : ∃ e2 ∈ r, e2.ix = (i : Int)
    · rw [if_pos hr, if_pos (by obtain ⟨e2, a1, a2⟩ := hr; exact ⟨e2, by simp [a1], a2⟩)]
    · rw [if_neg hr]
      by_cases hci : c = i
      · subst hci
        rw [if_pos ⟨e, by simp, hix⟩, ← hed, List.getD_eq_getElem?_getD, List.getElem?_set_self (by omega)]
        rfl
      · rw [if_neg (by
          rintro ⟨e2, a1, a2⟩
          rcases List.mem_cons.1 a1 with rfl | a1
          · rw [hix] at a2; omega
          · exact hr ⟨e2, a1, a2⟩), List.getD_eq_getElem?_getD, List.getElem?_set_ne hci, ← List.getD_eq_getElem?_getD]
end Go.Proofs.YthffmjeodoinlaaDoor

/- The shards of a graph are right: plain. -/
namespace Go.Proofs.YthffmjeodoinlaaDoor
theorem lessB_same {a b c y z : Int} (h : lessB a b c a y z = false) : y < b ∨ (y = b ∧ z ≤ c) := by
  unfold lessB at h
  by_cases hb : b = y
  · subst hb; simp at h; omega
  · simp [hb] at h; omega
/-- What the sorted records are. -/
theorem sorted_perm (es : List Int) (xs : List EdgeR) {size : Int} (hs : 1 ≤ size) : (sortedOf es xs size).Perm (recsTo es xs xs.length) := by
  unfold sortedOf
  rw [sortAll_eq _ _ hs]
  exact perm_sortL _
theorem sorted_ord (es : List Int) (xs : List EdgeR) {size : Int} (hs : 1 ≤ size) : OrdL (sortedOf es xs size) := by
  unfold sortedOf
  rw [sortAll_eq _ _ hs]
  exact ord_sortL _
theorem sorted_mem (es : List Int) (xs : List EdgeR) {size : Int} (hs : 1 ≤ size) {r : RecR} (h : r ∈ sortedOf es xs size) : ∃ i, i < xs.length ∧ r = recOf es xs i := by
  have h2 := (sorted_perm es xs hs).mem_iff.1 h
  unfold recsTo at h2
  obtain ⟨i, hi, rfl⟩ := List.mem_map.1 h2
  exact ⟨i, List.mem_range.1 hi, rfl⟩
theorem sorted_ne (es : List Int) (xs : List EdgeR) {size : Int} (hs : 1 ≤ size) : (sortedOf es xs size).Pairwise (fun a b => a.c ≠ b.c) := by
  refine (List.Perm.pairwise_iff (R := fun a b : RecR => a.c ≠ b.c) (fun h => Ne.symm h) (sorted_perm es xs hs)).2 ?_
  unfold recsTo
  rw [List.pairwise_map]
  refine List.Pairwise.imp ?_ List.pairwise_lt_range
  intro a b h
  simp only [recOf]
  omega
theorem inner_next (es : List Int) (xs : List EdgeR) {size : Int} (hs : 1 ≤ size) (p : Nat) : (innerOf xs p (sortedOf es xs size)).Pairwise (fun a b => a.fr < b.fr ∨ (a.fr = b.fr ∧ a.ix < b.ix)) := by
  unfold innerOf
  rw [List.pairwise_map]
  have h := (List.Pairwise.and (sorted_ord es xs hs) (sorted_ne es xs hs)).filter (fun r => decide (r.a = (p : Int)))
  refine List.Pairwise.imp_of_mem ?_ h
  rintro r t hr ht ⟨h1, h2⟩
  rw [List.mem_filter] at hr ht
  obtain ⟨i, hi, rfl⟩ := sorted_mem es xs hs hr.1
  obtain ⟨j, hj, rfl⟩ := sorted_mem es xs hs ht.1
  have a1 : ivI es (edgeAt xs i).to = (p : Int) := of_decide_eq_true hr.2
  have a2 : ivI es (edgeAt xs j).to = (p : Int) := of_decide_eq_true ht.2
  simp only [recOf] at h2
  have h3 : lessR (recOf es xs j) (recOf es xs i) = false := by simpa using h1
  have h4 : lessB (p : Int) (edgeAt xs j).fr (j : Int) (p : Int) (edgeAt xs i).fr (i : Int) = false := by rw [← h3]; unfold lessR recOf; simp only [a1, a2]
  have h5 := lessB_same h4
  simp only [sedgeOf, recOf, Int.toNat_natCast]
  omega
end Go.Proofs.YthffmjeodoinlaaDoor

/- The shards of a graph are right, joined they are the graph, and their edges are counted by the degrees: plain. -/
namespace Go.Proofs.YthffmjeodoinlaaDoor
theorem inner_mem {es : List Int} {xs : List EdgeR} {size : Int} (hs : 1 ≤ size) {p : Nat} {e : SEdgeR} (h : e ∈ innerOf xs p (sortedOf es xs size)) :
    ∃ i, i < xs.length ∧ ivI es (edgeAt xs i).to = (p : Int) ∧ e = ⟨(edgeAt xs i).fr, (edgeAt xs i).to, (edgeAt xs i).wt, (i : Int), 0⟩ := by
  unfold innerOf at h
  obtain ⟨r, hr, rfl⟩ := List.mem_map.1 h
  rw [List.mem_filter] at hr
  obtain ⟨i, hi, rfl⟩ := sorted_mem es xs hs hr.1
  exact ⟨i, hi, of_decide_eq_true hr.2, by simp only [sedgeOf, recOf, Int.toNat_natCast]⟩
theorem shard_ok {n : Int} {es : List Int} {xs : List EdgeR} {size : Int} (hg : graphB n xs = true) (he : endsB n es = true) (hs : 1 ≤ size) {p : Nat} (hp : p < es.length) :
    shardB (spanI es p).1 (spanI es p).2 (innerOf xs p (sortedOf es xs size)) = true := by
  obtain ⟨g1, g2, g3, g4⟩ := graphB_yes hg
  obtain ⟨f1, f2, f3, f4⟩ := span_facts he hp
  have hl := len_innerOf xs p (sortedOf es xs size)
  rw [sorted_len es xs hs] at hl
  have hall : (List.range (innerOf xs p (sortedOf es xs size)).length).all (stepB (spanI es p).1 (spanI es p).2 (innerOf xs p (sortedOf es xs size))) = true := by
    rw [List.all_eq_true]
    intro k hk
    rw [List.mem_range] at hk
    have hse : sedgeB (spanI es p).1 (spanI es p).2 (atSEdge (innerOf xs p (sortedOf es xs size)) k) = true := by
      rw [atSEdge_eq _ _ hk]
      obtain ⟨i, hi, hiv, e⟩ := inner_mem hs (List.getElem_mem hk)
      rw [e]
      obtain ⟨r1, r2, r3, r4, r5, r6⟩ := edgeB_yes (g4 i hi)
      obtain ⟨s1, s2⟩ := span_in he r3 r4 hp hiv
      have hn : numB 0 = true := by decide
      unfold sedgeB sedge8
      rw [hn]
      simp only [Bool.and_true, Bool.and_eq_true, decide_eq_true_eq]
      omega
    unfold stepB
    rw [hse, Bool.true_and]
    by_cases hk0 : k = 0
    · simp [hk0]
    · have hpw := inner_next es xs hs p
      rw [List.pairwise_iff_getElem] at hpw
      have h2 := hpw (k - 1) k (by omega) hk (by omega)
      rw [atSEdge_eq _ _ hk, atSEdge_eq _ _ (by omega)]
      unfold nextB
      rcases h2 with h2 | ⟨h2, h3⟩
      · simp [h2]
      · simp [h2, h3]
  unfold shardB
  rw [hall]
  simp only [Bool.and_true, Bool.and_eq_true, decide_eq_true_eq]
  omega
/-- The shards' edges, all in a row, are a permutation of the records' edges. -/
theorem filt_next (q : Nat) : ∀ (S : List RecR), (S.filter (fun r => decide (r.a < (q : Int))) ++ S.filter (fun r => decide (r.a = (q : Int)))).Perm (S.filter (fun r => decide (r.a < ((q + 1 : Nat) : Int)))) := by
  intro S
  induction S with
  | nil => exact List.Perm.refl _
  | cons r t ih =>
    by_cases c1 : r.a < (q : Int)
    · rw [List.filter_cons_of_pos (by simpa using c1), List.filter_cons_of_neg (by simp; omega), List.filter_cons_of_pos (by simp; omega), List.cons_append]
      exact ih.cons r
    · rw [List.filter_cons_of_neg (by simpa using c1)]
      by_cases c2 : r.a = (q : Int)
      · rw [List.filter_cons_of_pos (by simpa using c2), List.filter_cons_of_pos (by simp; omega)]
        exact List.perm_middle.trans (ih.cons r)
      · rw [List.filter_cons_of_neg (by simpa using c2), List.filter_cons_of_neg (by simp; omega)]
        exact ih
theorem flat_perm (xs : List EdgeR) (S : List RecR) (h0 : ∀ r ∈ S, 0 ≤ r.a) : ∀ q : Nat, ((List.range q).flatMap fun p => innerOf xs p S).Perm ((S.filter (fun r => decide (r.a < (q : Int)))).map (sedgeOf xs)) := by
  intro q
  induction q with
  | zero =>
    have : S.filter (fun r => decide (r.a < ((0 : Nat) : Int))) = [] := by
      rw [List.filter_eq_nil_iff]
      intro r hr
      have := h0 r hr
      simp; omega
    rw [this]
    exact List.Perm.refl _
  | succ q ih =>
    rw [List.range_succ, List.flatMap_append]
    refine List.Perm.trans (List.Perm.append_right _ ih) ?_
    have e : List.flatMap (fun p => innerOf xs p S) [q] = (S.filter (fun r => decide (r.a = (q : Int)))).map (sedgeOf xs) := by simp [innerOf]
    rw [e, ← List.map_append]
    exact (filt_next q S).map _
theorem jE_perm {n : Int} {es : List Int} {xs : List EdgeR} {size : Int} (hg : graphB n xs = true) (he : endsB n es = true) (hs : 1 ≤ size) :
    (jE (dealtTo es xs (sortedOf es xs size) es.length) 0).Perm ((sortedOf es xs size).map (sedgeOf xs)) := by
  have hin := sorted_in hg he hs
  have h1 := flat_perm xs (sortedOf es xs size) (fun r hr => by obtain ⟨p, e, _⟩ := (hin r hr).a; omega) es.length
  have h2 : (sortedOf es xs size).filter (fun r => decide (r.a < (es.length : Int))) = sortedOf es xs size := by
    rw [List.filter_eq_self]
    intro r hr
    obtain ⟨p, e, hp⟩ := (hin r hr).a
    simp; omega
  rw [h2] at h1
  have h3 : jE (dealtTo es xs (sortedOf es xs size) es.length) 0 = (List.range es.length).flatMap fun p => innerOf xs p (sortedOf es xs size) := by
    unfold jE dealtTo
    rw [List.drop_zero, List.flatMap_map]
    rfl
  rw [h3]
  exact h1
theorem jCnt_len (D : List (Int × Int × List SEdgeR)) : jCnt D D.length = (jE D 0).length := by
  unfold jCnt jE
  rw [List.take_length, List.drop_zero, List.length_flatMap]
theorem atSh_dealt (es : List Int) (xs : List EdgeR) (L : List RecR) (q p : Nat) (h : p < q) : atSh (dealtTo es xs L q) p = shardOf es xs L p := by
  unfold atSh
  have hp : p < (dealtTo es xs L q).length := by rw [len_dealtTo]; exact h
  rw [List.getD_eq_getElem?_getD, List.getElem?_eq_getElem hp, dealtTo_get]
  rfl
theorem joined_ok {n : Int} {es : List Int} {xs : List EdgeR} {size : Int} (hg : graphB n xs = true) (he : endsB n es = true) (hs : 1 ≤ size) :
    joinedF n (dealtTo es xs (sortedOf es xs size) es.length) = ((n, xs), true) := by
  obtain ⟨g1, g2, g3, g4⟩ := graphB_yes hg
  obtain ⟨_, _, hinc⟩ := endsB_yes he
  have hperm := jE_perm hg he hs
  have hcnt : jCnt (dealtTo es xs (sortedOf es xs size) es.length) (dealtTo es xs (sortedOf es xs size) es.length).length = xs.length := by
    rw [jCnt_len, hperm.length_eq, List.length_map, sorted_len es xs hs]
  have hlast : ∀ k, k ≤ es.length → jLast (dealtTo es xs (sortedOf es xs size) es.length) k = if k = 0 then 0 else es.getD (k - 1) 0 := by
    intro k hk
    unfold jLast
    by_cases e : k = 0
    · rw [if_pos e, if_pos e]
    · rw [if_neg e, if_neg e, atSh_dealt _ _ _ _ _ (by omega)]
      unfold shardOf spanI
      rw [if_neg (by omega), Int.toNat_natCast]
      by_cases e2 : ((k - 1 : Nat) : Int) = 0
      · rw [if_pos e2]
        show es.getD 0 0 = _
        rw [show k - 1 = 0 from by omega]
      · rw [if_neg e2]
  have hall : jAll (dealtTo es xs (sortedOf es xs size) es.length) = true := by
    apply jAll_yes
    intro i hi
    rw [len_dealtTo] at hi
    unfold jStep
    rw [atSh_dealt _ _ _ _ _ hi, hlast i (by omega)]
    have h1 := shard_ok hg he hs hi
    unfold shardOf
    rw [h1, Bool.true_and]
    unfold spanI
    rw [if_neg (by omega)]
    by_cases e : i = 0
    · subst e; simp
    · rw [if_neg e, if_neg (by omega), show ((i : Int) - 1).toNat = i - 1 from by omega]
      simp
  have hend : jLast (dealtTo es xs (sortedOf es xs size) es.length) (dealtTo es xs (sortedOf es xs size) es.length).length = n := by
    rw [len_dealtTo, hlast es.length (Nat.le_refl _)]
    by_cases e : es.length = 0
    · rw [if_pos e]
      have : es = [] := List.eq_nil_of_length_eq_zero e
      rw [this] at hinc
      simp only [incB, Option.some.injEq] at hinc
      exact hinc
    · rw [if_neg e]
      exact incB_last es 0 n hinc (fun h => e (by rw [h]; rfl))
  have hhead : jHead n (dealtTo es xs (sortedOf es xs size) es.length) = true := by
    unfold jHead
    rw [hall, hend, hcnt]
    simp
    omega
  have hne : ((sortedOf es xs size).map (sedgeOf xs)).Pairwise (fun a b => a.ix ≠ b.ix) := by
    rw [List.pairwise_map]
    exact sorted_ne es xs hs
  obtain ⟨g', p1, p2, p3⟩ := plcs_ok (n := n) (M := xs.length) (xs := xs) rfl (jE (dealtTo es xs (sortedOf es xs size) es.length) 0) (List.replicate xs.length ⟨0, 0, 0⟩) (List.replicate xs.length false) (by simp) (by simp) (fun e hE => by
      have h2 := hperm.mem_iff.1 hE
      obtain ⟨r, hr, rfl⟩ := List.mem_map.1 h2
      obtain ⟨i, hi, rfl⟩ := sorted_mem es xs hs hr
      obtain ⟨r1, r2, r3, r4, r5, r6⟩ := edgeB_yes (g4 i hi)
      refine ⟨i, hi, rfl, ?_, ?_, ?_⟩
      · simpa only [sedgeOf, recOf, Int.toNat_natCast] using r2
      · simp only [sedgeOf, recOf, Int.toNat_natCast]
      · rw [List.getD_eq_getElem?_getD, List.getElem?_replicate]
        simp [hi]) ((List.Perm.pairwise_iff (R := fun a b : SEdgeR => a.ix ≠ b.ix) (fun h => Ne.symm h) hperm).2 hne)
  have hg' : g' = xs := by
    apply List.ext_getElem p2
    intro i h1 h2
    have h3 := p3 i h2
    rw [if_pos ⟨sedgeOf xs (recOf es xs i), hperm.mem_iff.2 (List.mem_map.2 ⟨recOf es xs i, (sorted_perm es xs hs).mem_iff.2 (by unfold recsTo; exact List.mem_map.2 ⟨i, List.mem_range.2 h2, rfl⟩), rfl⟩), rfl⟩, edgeAt_eq xs i h2, List.getD_eq_getElem?_getD, List.getElem?_eq_getElem h1] at h3
    exact h3
  refine joinedF_yes hhead ?_
  unfold jPlc
  rw [hcnt, p1, hg']
/-- How many edges end between lo and v. -/
def cntTo (xs : List EdgeR) (lo v : Int) : Nat := (xs.filter fun e => decide (lo ≤ e.to) && decide (e.to < v)).length
theorem cntTo_lo (xs : List EdgeR) (lo : Int) : cntTo xs lo lo = 0 := by
  unfold cntTo
  rw [List.length_eq_zero_iff, List.filter_eq_nil_iff]
  intro e _
  simp
theorem fold_get : ∀ (is : List Nat) (l : List Int) (j : Nat), j < l.length → (is.foldl bump l).getD j 0 = l.getD j 0 + ((is.filter fun i => decide (i = j)).length : Int) := by
  intro is
  induction is with
  | nil => intro l j _; simp
  | cons i r ih =>
    intro l j hj
    rw [List.foldl_cons, ih (bump l i) j (by rw [bump_len]; exact hj), bump_get]
    by_cases c : i = j
    · rw [if_pos ⟨c, hj⟩, List.filter_cons_of_pos (by simpa using c), List.length_cons]; omega
    · rw [if_neg (fun h => c h.1), List.filter_cons_of_neg (by simpa using c)]
theorem tally_get (n : Nat) (is : List Nat) (j : Nat) (h : j < n) : (tally n is).getD j 0 = ((is.filter fun i => decide (i = j)).length : Int) := by
  unfold tally
  rw [fold_get is _ j (by simpa using h), List.getD_eq_getElem?_getD, List.getElem?_replicate]
  simp [h]
theorem cntTo_next (n : Nat) (lo v : Nat) (hlo : lo ≤ v) (hv : v < n) : ∀ xs : List EdgeR, (∀ e ∈ xs, 0 ≤ e.to) → (cntTo xs lo ((v + 1 : Nat) : Int) : Int) = cntTo xs lo v + (tally n (degI EdgeR.to xs)).getD v 0 := by
  intro xs h0
  rw [tally_get n _ v hv]
  induction xs with
  | nil => rfl
  | cons e r ih =>
    have ih2 := ih (fun x hx => h0 x (by simp [hx]))
    have he := h0 e (by simp)
    unfold cntTo degI at *
    rw [List.map_cons]
    by_cases c1 : e.to = (v : Int)
    · rw [List.filter_cons_of_pos (by simp; omega), List.filter_cons_of_neg (l := r) (a := e) (p := fun e => decide ((lo : Int) ≤ e.to) && decide (e.to < (v : Int))) (by simp; omega), List.filter_cons_of_pos (by simp; omega), List.length_cons, List.length_cons]
      omega
    · rw [List.filter_cons_of_neg (l := List.map (fun e => e.to.toNat) r) (by simp; omega)]
      by_cases c2 : (lo : Int) ≤ e.to ∧ e.to < (v : Int)
      · rw [List.filter_cons_of_pos (l := r) (a := e) (p := fun e => decide ((lo : Int) ≤ e.to) && decide (e.to < ((v + 1 : Nat) : Int))) (by simp; omega), List.filter_cons_of_pos (l := r) (a := e) (p := fun e => decide ((lo : Int) ≤ e.to) && decide (e.to < (v : Int))) (by simp; omega), List.length_cons, List.length_cons]
        omega
      · rw [List.filter_cons_of_neg (l := r) (a := e) (p := fun e => decide ((lo : Int) ≤ e.to) && decide (e.to < ((v + 1 : Nat) : Int))) (by simp; omega), List.filter_cons_of_neg (l := r) (a := e) (p := fun e => decide ((lo : Int) ≤ e.to) && decide (e.to < (v : Int))) (by simp; omega)]
        exact ih2
theorem range_edges (xs : List EdgeR) : xs = (List.range xs.length).map (edgeAt xs) := by
  apply List.ext_getElem
  · simp
  · intro i h1 h2
    rw [List.getElem_map, List.getElem_range, edgeAt_eq xs i h1]
theorem inner_cnt {n : Int} {es : List Int} {xs : List EdgeR} {size : Int} (hg : graphB n xs = true) (he : endsB n es = true) (hs : 1 ≤ size) {p : Nat} (hp : p < es.length) :
    (innerOf xs p (sortedOf es xs size)).length = cntTo xs (spanI es p).1 (spanI es p).2 := by
  obtain ⟨g1, g2, g3, g4⟩ := graphB_yes hg
  obtain ⟨f1, f2, f3, f4⟩ := span_facts he hp
  unfold innerOf cntTo
  rw [List.length_map, ((sorted_perm es xs hs).filter _).length_eq]
  conv => rhs; rw [range_edges xs]
  unfold recsTo
  rw [List.filter_map, List.length_map, List.filter_map, List.length_map]
  congr 1
  apply List.filter_congr
  intro i hi
  rw [List.mem_range] at hi
  obtain ⟨r1, r2, r3, r4, r5, r6⟩ := edgeB_yes (g4 i hi)
  simp only [Function.comp, recOf]
  by_cases c : ivI es (edgeAt xs i).to = (p : Int)
  · obtain ⟨s1, s2⟩ := span_in he r3 r4 hp c
    simp [c, s1, s2]
  · have : ¬ ((spanI es p).1 ≤ (edgeAt xs i).to ∧ (edgeAt xs i).to < (spanI es p).2) := fun h => c (f4 _ h.1 h.2)
    simp [c]
    intro h1
    omega
end Go.Proofs.YthffmjeodoinlaaDoor

/- Shards of the program and of the reference: what they compute. -/
namespace Go.Proofs.YthffmjeodoinlaaDoor
open Go.RowKit
theorem infoShardB : (Tryd.prog.info? 38).map (fun i => (i.zero, i.size, i.bytes)) = some (some (.agg #[.int .i64 0, .int .i64 0, .slice none 0 0]), 3, 40) := by kernel_rfl
theorem oneSEdgeV (x : SEdgeR) : ∀ u ∈ encSEdge x, u.oneCell' = true := by
  intro u hu
  simp [encSEdge] at hu
  rcases hu with rfl | rfl | rfl | rfl | rfl <;> rfl
theorem oneShardV (x : ShardR) : ∀ u ∈ encShard x, u.oneCell' = true := by
  intro u hu
  simp [encShard] at hu
  rcases hu with rfl | rfl | rfl <;> rfl
theorem set_keep4 {w : World} {g o B : Nat} {u v0 v1 v2 v3 : Value} (h : g < B) (k : w.cell? ⟨B + 1, 0, none⟩ = some v0 ∧ w.cell? ⟨B + 1, 1, none⟩ = some v1 ∧ w.cell? ⟨B + 1, 2, none⟩ = some v2 ∧ w.cell? ⟨B, 2, none⟩ = some v3) : (w.setCell ⟨g, o, none⟩ u).cell? ⟨B + 1, 0, none⟩ = some v0 ∧ (w.setCell ⟨g, o, none⟩ u).cell? ⟨B + 1, 1, none⟩ = some v1 ∧ (w.setCell ⟨g, o, none⟩ u).cell? ⟨B + 1, 2, none⟩ = some v2 ∧ (w.setCell ⟨g, o, none⟩ u).cell? ⟨B, 2, none⟩ = some v3 := by
  refine ⟨?_, ?_, ?_, ?_⟩
  · rw [World.cell?_setCell_other _ _ _ _ (by simp <;> omega)]; exact k.1
  · rw [World.cell?_setCell_other _ _ _ _ (by simp <;> omega)]; exact k.2.1
  · rw [World.cell?_setCell_other _ _ _ _ (by simp <;> omega)]; exact k.2.2.1
  · rw [World.cell?_setCell_other _ _ _ _ (by simp <;> omega)]; exact k.2.2.2
/-- A call that returns a row of shards. -/
def RetShs (F : List (Int × Int × List SEdgeR)) (w : World) (en : Ending) (w' : World) : Prop := ∃ r : Row ShardR, en = .returned (.slice r.a r.n r.c) ∧ datShardS r = F ∧ OwnShardS w.heap.size w'.heap.size w' r ∧ bulkShardS r ≤ 1048576 ∧ Below w.heap.size w w'
theorem RetShs.nil (w w' : World) (hb : Below w.heap.size w w') : RetShs [] w (.returned (.slice none 0 0)) w' :=
  ⟨⟨none, 0, 0, []⟩, rfl, rfl, ⟨((OwnN.nil _ _ _ _ _ _ _ _ w).below hb).grow hb.size (Nat.le_refl _)⟩, by unfold bulkShardS preShard; simp, hb⟩
set_option maxRecDepth 100000 in
set_option maxHeartbeats 6400000 in
theorem shards_impl_y (n : Int) (a : Option Addr) (m cap : Nat) (xs : List EdgeR) (a2 : Option Addr) (m2 cap2 : Nat) (es : List Int) (size : Int) (w : World) (h : Rd encEdge 3 w a m cap xs) (h' : Rd (encI .i64) 1 w a2 m2 cap2 es) (hm2 : m2 ≤ 1048576) (hz : In64 size) (hg : graphB n xs = true) (he : endsB n es = true) (hs : 1 ≤ size) :
    Calls Tryd.prog 7 #[.agg #[.int .i64 n, .slice a m cap], .slice a2 m2 cap2, .int .i64 size] w fun e w' => RetShs (shardsF n xs es size) w e w' := by
  have hL := Lib.hid h.len
  have hL2 := Lib.hid h'.len
  have hm := h.max
  have hle := h.le
  unfold maxLen at hm
  have hb0 := (Below.refl w.heap.size w).alloc (Nat.le_refl _) (.cells #[.int .i64 n, .slice a m cap] 25)
  obtain ⟨q1, q2, q3, q4⟩ := graphB_yes hg
  have HIN := Lib.hid (sorted_in hg he hs)
  have HR := Lib.hid (shardsF_yes hg he hs)
  have HG := Lib.hid hg
  have HE := Lib.hid he
  have hel := ends_len he
  have HSL := Lib.hid (sorted_len es xs hs)
  have HSO := Lib.hid (show sortedOf es xs size = mergeF (batF (recsTo es xs m) size) from by unfold sortedOf; rw [hL.out])
  rw [hL2.out] at hel
  rw [hL.out] at q3
  have hs1 : ¬ size < 1 := by omega
  clear hg he q4
  generalize sortedOf es xs size = S at *
  obtain ⟨i0, hi, hz0, hz1, hz2⟩ := info_parts infoRec
  go_enter Tryd.func7, Tryd.ntmps7
  go_wp2_with fail
  refine (graphOk_impl n a m cap xs _ (h.below hb0 (Nat.le_refl _))).mono ?_
  rintro e w1 ⟨rfl, hb1⟩
  rw [HG.out]
  obtain ⟨hc, hf⟩ := bcell hb1
  have c0 : w1.cell? ⟨w.heap.size, 0, none⟩ = some (.int .i64 n) := by rw [hc _ _ (by simp)]; simp [go_sem]
  have c1 : w1.cell? ⟨w.heap.size, 1, none⟩ = some (.slice a m cap) := by rw [hc _ _ (by simp)]; simp [go_sem]
  have BB1 := hb0.trans (hb1.mono (by simp))
  have sz1 : w.heap.size < w1.heap.size := by have := hb1.size; simp at this; omega
  clear hc hf hb1
  go_wp2_with fail
  refine (endsOk_impl n a2 m2 cap2 es _ (h'.below BB1 (Nat.le_refl _))).mono ?_
  rintro e w2 ⟨rfl, hb2⟩
  rw [HE.out]
  have d1 := cell_later hb2 c1
  have BB2 := BB1.trans (hb2.mono BB1.size)
  have sz2 : w.heap.size < w2.heap.size := Nat.lt_of_lt_of_le sz1 hb2.size
  clear c0 c1 hb2 BB1 sz1
  have hown1 : w2.ownsRow w2.heap.size 54 3 (.slice none 0 0) 0 ((recsTo es xs 0).flatMap encRec) := World.ownsRow_nil _ _ _ _
  go_wp2
  go_loopw [7, 35] (fun r i wr => ∃ (k : Nat) (A : Option Addr) (C : Nat), k ≤ m ∧ r = .slice A k C ∧ i = .int .i64 k ∧ wr.ownsRow w2.heap.size 54 3 (.slice A k C) k ((recsTo es xs k).flatMap encRec) ∧ Below w2.heap.size w2 wr) (fun _ i _ => m - (intOf i).toNat)
  case atStart => exact ⟨0, none, 0, Nat.zero_le _, rfl, rfl, hown1, Below.refl _ _⟩
  case round =>
    obtain ⟨k, A, C, hk, rfl, rfl, ho, hb⟩ := hrel
    clear hown1
    by_cases hlt : k < m
    · obtain ⟨b1, off1, rfl, hbl1, hc1⟩ := h.edges (by omega)
      have cb : ∀ o, wr.cell? ⟨b1, o, none⟩ = w.cell? ⟨b1, o, none⟩ := fun o => (hb.cell (p := ⟨b1, o, none⟩) (Nat.lt_of_lt_of_le hbl1 BB2.size)).trans (BB2.cell (p := ⟨b1, o, none⟩) hbl1)
      obtain ⟨k0, k1, k2⟩ := hc1 k hlt
      rw [← cb] at k0 k1 k2
      have HS := Lib.hid (recsTo_succ es xs k)
      have HRO := Lib.hid (show recOf es xs k = ⟨ivI es (edgeAt xs k).to, (edgeAt xs k).fr, k⟩ from rfl)
      have hi1 : (k : Int) < (m : Int) := by omega
      have RD' := h'.below (BB2.trans (hb.mono BB2.size)) (Nat.le_refl _)
      have hal := (Below.refl wr.heap.size wr).alloc (Nat.le_refl _) (.cells #[.int .i64 (edgeAt xs k).fr, .int .i64 (edgeAt xs k).to, .int .i64 (edgeAt xs k).wt] 52)
      clear hc1 cb h
      generalize edgeAt xs k = x at *
      have x0 : (wr.alloc (.cells #[.int .i64 x.fr, .int .i64 x.to, .int .i64 x.wt] 52)).cell? ⟨wr.heap.size, 0, none⟩ = some (.int .i64 x.fr) := by simp [go_sem]
      have x1 : (wr.alloc (.cells #[.int .i64 x.fr, .int .i64 x.to, .int .i64 x.wt] 52)).cell? ⟨wr.heap.size, 1, none⟩ = some (.int .i64 x.to) := by simp [go_sem]
      go_wp2_with fail
      generalize wr.alloc (.cells #[.int .i64 x.fr, .int .i64 x.to, .int .i64 x.wt] 52) = wb at *
      have RD2 := RD'.below hal (Nat.le_refl _)
      have hobr := Lib.hid (fun q hq => (World.ownsRow.lt ho q hq))
      have ho2 := own_below ho hal (Nat.le_refl _)
      have hszb := hal.size
      have hsz2 := hb.size
      have hx1 := World.block_lt_of_cell? _ _ x0
      simp only at hx1
      go_region_held3 (fun w' => w'.cell? ⟨wr.heap.size, 0, none⟩ = some (.int .i64 x.fr) ∧ w'.cell? ⟨wr.heap.size, 1, none⟩ = some (.int .i64 x.to) ∧ Below w2.heap.size wb w')
        (first | assumption | exact keepd2 (by assumption) | exact keep2 ((Below.refl _ _).alloc (Nat.le_refl _) _) (Nat.le_trans hsz2 hszb) (by assumption) | exact keep2 (by assumption) (Nat.le_trans hsz2 hszb) (by assumption) | exact ⟨x0, x1, (Below.refl _ _).drew⟩)
        (first
        | (go_at_call 12; refine (intervalOf_impl x.to a2 m2 cap2 es _ (by first | exact RD2 | exact RD2.below (Below.refl _ _).drew (Nat.le_refl _))).mono ?_; rintro e wa ⟨rfl, hba⟩)
        | (refine step_app_any (by rfl) _ _ _ (by rfl) w2.heap.size 54 Tryd.underlying50 hi hz0 hz1 hz2 rfl (by decide) A k C ((recsTo es xs k).flatMap encRec) (by rfl) (own_below (own_below ho2 ((Below.refl _ _).drew) (Nat.le_refl _)) (hba.trans (((Below.refl wa.heap.size wa).alloc (Nat.le_refl _) (.cells #[.int .i64 (ivI es x.to), .int .i64 x.fr, .int .i64 k] 54)).mono hba.size)) (Nat.le_refl _)) (some ⟨wa.heap.size, 0, none⟩) 1 1 (encRec ⟨ivI es x.to, x.fr, k⟩) (by rfl) (by rfl) (fun ad had => by cases had; exact World.news_of_block (heap_alloc_new wa (.cells #[.int .i64 (ivI es x.to), .int .i64 x.fr, .int .i64 k] 54))) (fun ha => by cases ha) (one_enc _) (by unfold maxLen; omega) (by omega) (by have := hba.size; simp at this ⊢; omega) ?_; intro A4 C4 w4 ho4 hg4
           have hS : w4.cell? ⟨wr.heap.size, 0, none⟩ = some (.int .i64 x.fr) ∧ w4.cell? ⟨wr.heap.size, 1, none⟩ = some (.int .i64 x.to) ∧ Below w2.heap.size wb w4 := by
             have hla := hba.trans (((Below.refl wa.heap.size wa).alloc (Nat.le_refl _) (.cells #[.int .i64 (ivI es x.to), .int .i64 x.fr, .int .i64 k] 54)).mono hba.size)
             have hls := hla.size
             have hne : some wr.heap.size ≠ (Value.slice A k C).ownBlock := fun e1 => Nat.lt_irrefl _ (hobr.out _ e1.symm).2
             refine ⟨hg4.cell (cell_later hla x0) hne, hg4.cell (cell_later hla x1) hne, ?_⟩
             exact ((Below.refl _ _).drew.trans (hla.mono (Nat.le_trans hsz2 hszb))).trans (below_grown hg4 (Nat.le_trans (Nat.le_trans hsz2 hszb) hls) (fun q hq => (hobr.out q hq).1))))
      all_goals
        have hS4 : w4.cell? ⟨wr.heap.size, 0, none⟩ = some (.int .i64 x.fr) ∧ w4.cell? ⟨wr.heap.size, 1, none⟩ = some (.int .i64 x.to) ∧ Below w2.heap.size wb w4 := by assumption
        have hB4 := (hb.trans (hal.mono hsz2)).trans hS4.2.2
        have HO4 := Lib.hid (show w4.ownsRow w2.heap.size 54 3 (.slice A4 (k + 1) C4) (k + 1) ((recsTo es xs (k + 1)).flatMap encRec) from by rw [HS.out, HRO.out, List.flatMap_append]; simpa using ho4)
        clear ho4 hg4 hS4 hba ho2 hobr
        go_wp2
        go_roundw
        case rel => exact ⟨k + 1, A4, C4, by omega, rfl, by go_num, HO4.out, hB4⟩
        case measure => simp [intOf]; omega
    · obtain rfl : k = m := by omega
      obtain ⟨w3, hw3⟩ : ∃ w3, w3 = wr := ⟨_, rfl⟩
      subst hw3
      obtain ⟨j0, ji, jz0, jz1, jz2⟩ := info_parts infoShardB
      have hsz3 : w2.heap.size ≤ w3.heap.size := hb.size
      have HO := Lib.hid ho
      have HB3 := Lib.hid (BB2.trans (hb.mono BB2.size))
      have hs3 := HB3.out.size
      have d3 := cell_later (hb.mono (Nat.le_refl _)) d1
      have hI0 : Hid (ShInv w3.heap.size w3 ⟨none, 0, 0, []⟩ (dealtTo es xs [] 0)) := Lib.hid ⟨⟨OwnN.nil _ _ _ _ _ _ _ _ _⟩, rfl⟩
      clear ho hb BB2 hi hz0 hz1 hz2 d1
      go_wp2
      go_loopw [10, 54] (fun out i wr => ∃ (q : Nat) (y : Row ShardR), q ≤ m2 ∧ out = .slice y.a y.n y.c ∧ i = .int .i64 q ∧ Hid (ShInv w3.heap.size wr y (dealtTo es xs [] q)) ∧ Hid (∀ x ∈ y.l, x.edgesA = none) ∧ Below w3.heap.size w3 wr) (fun _ i _ => m2 - (intOf i).toNat)
      case atStart => exact ⟨0, ⟨none, 0, 0, []⟩, Nat.zero_le _, rfl, rfl, hI0, Lib.hid (fun x hx => by cases hx), Below.refl _ _⟩
      case round =>
        obtain ⟨q, ⟨yA, yN, yC, yL⟩, hq, rfl, rfl, HI, HX, hbq⟩ := hrel
        clear hI0
        by_cases hlt : q < m2
        · have hyn : yN ≤ q := by have := HI.out.n; rw [len_dealtTo] at this; exact Nat.le_of_eq this
          have hqi : (q : Int) < (m2 : Int) := by omega
          have HD := Lib.hid (dealtTo_succ es xs [] q)
          obtain ⟨lo, hv, hsp⟩ : ∃ lo hv, spanI es q = (lo, hv) := ⟨_, _, rfl⟩
          have HSP := Lib.hid hsp
          have HSH := Lib.hid (show shardOf es xs [] q = (lo, hv, []) from by unfold shardOf; rw [hsp]; rfl)
          have RD' := h'.below (HB3.out.trans (hbq.mono hs3)) (Nat.le_refl _)
          have hszq := hbq.size
          clear hsp
          go_wp2_with fail
          refine (span_impl q a2 m2 cap2 es _ RD').mono ?_
          rintro e w4 ⟨rfl, hb4⟩
          have hal := (Below.refl w4.heap.size w4).alloc (Nat.le_refl _) (.cells #[.int .i64 lo, .int .i64 hv, .slice none 0 0] 38)
          have hbW := hb4.trans (hal.mono hb4.size)
          have HW := Lib.hid (HI.out.below hbW)
          have hs4 := hbW.size
          simp only [HSP.out]
          go_wp2_with (at_builtin; refine app_two rfl _ _ 30 rfl w3.heap.size 38 Tryd.underlying30 ji jz0 jz1 jz2 rfl (by decide) yA yN yC (yL.flatMap encShard) rfl (HW.out.own.nest.row.own) ⟨w4.heap.size, 0, none⟩ 1 1 (encShard ⟨lo, hv, none, 0, 0, []⟩) rfl rfl ?c1 (oneShardV _) (by decide) ?c2 ?c3 ?c4 ?_)
          case c1 => exact World.news_of_block (heap_alloc_new w4 (.cells #[.int .i64 lo, .int .i64 hv, .slice none 0 0] 38))
          case c2 => unfold maxLen; omega
          case c3 => omega
          case c4 => simp at hs4 ⊢; omega
          intro A2 C2 w5 ho5 hg5 hnew5
          have HN := Lib.hid (HW.out.snoc ⟨lo, hv, none, 0, 0, []⟩ A2 C2 ⟨rfl, World.ownsRow_nil _ _ _ _, fun g hg => by simp [Value.ownBlock] at hg, Nat.le_refl _, Nat.zero_le _⟩ ho5 hg5 (by simpa using hnew5) (by simp; omega) (fun g hg => by simp [Value.ownBlock] at hg))
          rw [show dealtTo es xs [] q ++ [datShard ⟨lo, hv, none, 0, 0, []⟩] = dealtTo es xs [] (q + 1) from by rw [HD.out, HSH.out]; rfl] at HN
          have hrl := Lib.hid (fun g hg => (World.ownsRow.lt HI.out.own.nest.row.own g hg))
          have HB := Lib.hid ((hbq.trans (hbW.mono hszq)).trans (below_grown hg5 (Nat.le_trans hszq hs4) (fun g hg => (hrl.out g hg).1)))
          clear ho5 hg5 hnew5 hrl HW hbW hal hb4 HI
          go_wp2
          go_roundw
          case rel => exact ⟨q + 1, ⟨A2, yN + 1, C2, yL ++ [⟨lo, hv, none, 0, 0, []⟩]⟩, by omega, rfl, by go_num, HN, Lib.hid (by
            intro x hx
            have hx2 : x ∈ yL ++ [⟨lo, hv, none, 0, 0, []⟩] := hx
            rcases List.mem_append.1 hx2 with h1 | h1
            · exact HX.out x h1
            · rw [List.mem_singleton.1 h1]), HB.out⟩
          case measure => simp [intOf]; omega
        · obtain ⟨w4, hw4⟩ : ∃ w4, w4 = wr := ⟨_, rfl⟩
          subst hw4
          have hyn : yN ≤ q := by have := HI.out.n; rw [len_dealtTo] at this; exact Nat.le_of_eq this
          have hyn2 : q ≤ yN := by have := HI.out.n; rw [len_dealtTo] at this; exact Nat.le_of_eq this.symm
          have HRR : rdRecS w4 ⟨A, k, C, recsTo es xs k⟩ := Rd.of_own (fun x _ => lenRec x) (own_below HO.out hbq (Nat.le_refl _)) (len_recsTo _ _ _)
          have hs4 := hbq.size
          obtain ⟨i1, gi, gz0, gz1, gz2⟩ := info_parts infoSEdge
          clear ji jz0 jz1 jz2
          go_wp2_with fail
          refine (sortAll_impl_k ⟨A, k, C, recsTo es xs k⟩ _ rfl size _ HRR (by show k ≤ 1048576; omega) hz).mono ?_
          rintro e w5 ⟨⟨zA, zN, zC, zL⟩, rfl, hdz, hoz, hkz, hb5⟩
          have hzS : zL = S := by rw [HSO.out]; exact hdz
          have hzn : zN = k := by have := hoz.row.len; simp only at this; rw [← this, hzS, HSL.out, hL.out]
          subst hzS
          subst hzn
          have HOZ := Lib.hid hoz
          have HGY := Lib.hid (fun g (hg : (Value.slice yA yN yC).ownBlock = some g) => (⟨(World.ownsRow.lt HI.out.own.nest.row.own g hg).1, HI.out.own.nest.row.lt g hg⟩ : w3.heap.size ≤ g ∧ g < w4.heap.size))
          have hs5 := hb5.size
          have B5 := hbq.trans (hb5.mono hs4)
          have HI5 : Hid (ShInv w3.heap.size w5 ⟨yA, yN, yC, yL⟩ (dealtTo es xs (zL.take 0) q)) := Lib.hid (HI.out.below hb5)
          have HX5 : Hid (∀ x ∈ yL, ∀ g, blkR (slShard x) = some g → w5.heap.size ≤ g) := Lib.hid (fun x hx g hg => by
            have := HX.out x hx
            unfold blkR slShard at hg
            simp only [this] at hg
            cases hg)
          clear HI HX HRR hdz hoz hkz
          go_wp2
          go_loopw [74] (fun i wr => ∃ (t : Nat) (yl : List ShardR), t ≤ zN ∧ i = .int .i64 t ∧ Hid (ShInv w3.heap.size wr ⟨yA, yN, yC, yl⟩ (dealtTo es xs (zL.take t) q)) ∧ Hid (∀ x ∈ yl, ∀ g, blkR (slShard x) = some g → w5.heap.size ≤ g) ∧ Win w3.heap.size w4.heap.size w5 wr) (fun i _ => zN - (intOf i).toNat)
          case atStart => exact ⟨0, yL, Nat.zero_le _, rfl, HI5, HX5, Win.refl _ _ _⟩
          case round =>
            obtain ⟨t, yl, ht, rfl, HI, HX, hW⟩ := hrel
            clear HI5 HX5
            have BW3 := B5.trans (hW.below (Nat.le_refl _) (Nat.le_trans hs4 hs5))
            have BW := HB3.out.trans (BW3.mono hs3)
            by_cases htl : t < zN
            · have hti : (t : Int) < (zN : Int) := by omega
              have hzl : zL.length = zN := HOZ.out.row.len
              have RZ : Rd encRec 3 wr zA zN zC zL := (HOZ.out.win hW (Or.inl (Nat.le_refl _))).rd
              obtain ⟨bz, offz, rfl, hblz, hcz⟩ := RZ.rowRec (by omega)
              obtain ⟨z0, z1, z2⟩ := hcz t htl
              have hmem := HIN.out (atRec zL t) (by rw [atRec_eq zL t (by omega)]; exact List.getElem_mem _)
              have HTK := Lib.hid (show zL.take (t + 1) = zL.take t ++ [atRec zL t] from by rw [List.take_succ_eq_append_getElem (by omega), atRec_eq zL t (by omega)])
              obtain ⟨⟨p, hp, hpN⟩, ⟨c, hc, hcN⟩⟩ := hmem
              have HSE := Lib.hid (show sedgeOf xs (atRec zL t) = ⟨(edgeAt xs c).fr, (edgeAt xs c).to, (edgeAt xs c).wt, c, 0⟩ from by unfold sedgeOf; rw [hc, Int.toNat_natCast])
              have HST := Lib.hid (dealtTo_set es xs (zL.take t) q p (atRec zL t) hp)
              generalize atRec zL t = r at *
              obtain ⟨ra, rb, rc⟩ := r
              simp only at hp hc z0 z1 z2
              subst hp
              subst hc
              rw [hL2.out] at hpN
              rw [hL.out] at hcN
              obtain ⟨b1, off1, rfl, hbl1, hc1⟩ := h.edges (by omega)
              obtain ⟨k0, k1, k2⟩ := hc1 c hcN
              have cb : ∀ o, wr.cell? ⟨b1, o, none⟩ = w.cell? ⟨b1, o, none⟩ := fun o => BW.cell (p := ⟨b1, o, none⟩) hbl1
              rw [← cb] at k0 k1 k2
              replace d3 := cell_lt BW3 d3 (by omega)
              clear hcz hc1 cb
              generalize edgeAt xs c = x at *
              have hyl : yl.length = yN := HI.out.own.nest.row.len
              obtain ⟨gy, rfl⟩ := own_some HI.out.own.nest.row.own (by show 0 < yN; omega)
              obtain ⟨bb, ob, hA1, hbly, hcy⟩ := (HI.out.own.rd).1.rowShard (by show 0 < yN; omega)
              cases hA1
              obtain ⟨s0, s1, s2⟩ := hcy p (by show p < yN; omega)
              simp only [Nat.zero_add] at s0 s1 s2
              have hpl : p < yl.length := by omega
              rw [atShard_eq yl p hpl] at s0 s1 s2
              have hdp : (spanI es p).1 = yl[p].lo ∧ (spanI es p).2 = yl[p].hi ∧ innerOf xs p (zL.take t) = yl[p].edges := by
                have hd : (datShardS ⟨some ⟨gy, 0, none⟩, yN, yC, yl⟩)[p]? = some (datShard yl[p]) := by unfold datShardS; rw [List.getElem?_map, List.getElem?_eq_getElem hpl]; rfl
                rw [HI.out.dat] at hd
                obtain ⟨h3, h4⟩ := List.getElem?_eq_some_iff.1 hd
                rw [dealtTo_get] at h4
                unfold shardOf datShard at h4
                simp only [Prod.mk.injEq] at h4
                exact h4
              have HDP := Lib.hid hdp
              have hlenp : yl[p].edgesN ≤ 400 := by
                have h1 : yl[p].edges.length = yl[p].edgesN := (HI.out.own.nest.inner p hpl).len
                have h2 := len_innerOf xs p (zL.take t)
                rw [hdp.2.2, List.length_take] at h2
                omega
              have hIp := Lib.hid (HI.out.own.nest.inner p hpl)
              have hXp := Lib.hid (HX.out yl[p] (List.getElem_mem hpl))
              clear hdp hcy
              generalize hxp : yl[p] = v at *
              have HV := Lib.hid hxp
              obtain ⟨vl, vh, vA, vN, vC, ve⟩ := v
              simp only at s0 s1 s2 hlenp
              have hgy := HGY.out gy rfl
              have hal := ((Below.refl wr.heap.size wr).alloc (Nat.le_refl _) (.cells #[.int .i64 p, .int .i64 rb, .int .i64 c] 54)).alloc (by simp) (.cells #[.int .i64 x.fr, .int .i64 x.to, .int .i64 x.wt] 52)
              have r2 : ((wr.alloc (.cells #[.int .i64 p, .int .i64 rb, .int .i64 c] 54)).alloc (.cells #[.int .i64 x.fr, .int .i64 x.to, .int .i64 x.wt] 52)).cell? ⟨wr.heap.size, 2, none⟩ = some (.int .i64 c) := by simp [go_sem]
              have e0 : ((wr.alloc (.cells #[.int .i64 p, .int .i64 rb, .int .i64 c] 54)).alloc (.cells #[.int .i64 x.fr, .int .i64 x.to, .int .i64 x.wt] 52)).cell? ⟨wr.heap.size + 1, 0, none⟩ = some (.int .i64 x.fr) := by simp [go_sem]
              have e1 : ((wr.alloc (.cells #[.int .i64 p, .int .i64 rb, .int .i64 c] 54)).alloc (.cells #[.int .i64 x.fr, .int .i64 x.to, .int .i64 x.wt] 52)).cell? ⟨wr.heap.size + 1, 1, none⟩ = some (.int .i64 x.to) := by simp [go_sem]
              have e2 : ((wr.alloc (.cells #[.int .i64 p, .int .i64 rb, .int .i64 c] 54)).alloc (.cells #[.int .i64 x.fr, .int .i64 x.to, .int .i64 x.wt] 52)).cell? ⟨wr.heap.size + 1, 2, none⟩ = some (.int .i64 x.wt) := by simp [go_sem]
              have sv := cell_later hal s2
              have hal1 := (Below.refl wr.heap.size wr).alloc (Nat.le_refl _) (.cells #[.int .i64 p, .int .i64 rb, .int .i64 c] 54)
              have d3b := cell_later hal1 d3
              have k0b := cell_later hal1 k0
              have k1b := cell_later hal1 k1
              have k2b := cell_later hal1 k2
              have hszr := hal.size
              have hs5r := hW.size
              go_wp2_with fail
              generalize (wr.alloc (.cells #[.int .i64 p, .int .i64 rb, .int .i64 c] 54)).alloc (.cells #[.int .i64 x.fr, .int .i64 x.to, .int .i64 x.wt] 52) = wB at *
              have hld : Below wB.heap.size wB ((wB.alloc (.cells #[.int .i64 x.fr, .int .i64 x.to, .int .i64 x.wt, .int .i64 c, .int .i64 0] 60)).drew) := ((Below.refl _ _).alloc (Nat.le_refl _) _).drew
              have hlB := hal.trans (hld.mono hszr)
              have HIL := Lib.hid (HI.out.below hlB)
              have hin := HIL.out.own.nest.inner p hpl
              rw [HV.out] at hin
              have HIN2 := Lib.hid hin
              have hap := HIL.out.own.nest.apart p hpl
              rw [HV.out] at hap
              have HAP := Lib.hid hap
              have hsl := hlB.size
              have svl := cell_later ((Below.refl wB.heap.size wB).alloc (Nat.le_refl _) (.cells #[.int .i64 x.fr, .int .i64 x.to, .int .i64 x.wt, .int .i64 c, .int .i64 0] 60)) sv
              clear hal1 d3b k0b k1b k2b hin hap s0 s1 s2 k0 k1 k2 z0 z1 z2
              have hSl : ((wB.alloc (.cells #[.int .i64 x.fr, .int .i64 x.to, .int .i64 x.wt, .int .i64 c, .int .i64 0] 60)).drew).cell? ⟨wr.heap.size + 1, 0, none⟩ = some (.int .i64 x.fr) ∧ ((wB.alloc (.cells #[.int .i64 x.fr, .int .i64 x.to, .int .i64 x.wt, .int .i64 c, .int .i64 0] 60)).drew).cell? ⟨wr.heap.size + 1, 1, none⟩ = some (.int .i64 x.to) ∧ ((wB.alloc (.cells #[.int .i64 x.fr, .int .i64 x.to, .int .i64 x.wt, .int .i64 c, .int .i64 0] 60)).drew).cell? ⟨wr.heap.size + 1, 2, none⟩ = some (.int .i64 x.wt) ∧ ((wB.alloc (.cells #[.int .i64 x.fr, .int .i64 x.to, .int .i64 x.wt, .int .i64 c, .int .i64 0] 60)).drew).cell? ⟨wr.heap.size, 2, none⟩ = some (.int .i64 c) := ⟨cell_later hld e0, cell_later hld e1, cell_later hld e2, cell_later hld r2⟩
              have hnA : ∀ d, some (wr.heap.size + d) ≠ (Value.slice vA vN vC).ownBlock := fun d e3 => by have := hIp.out.lt _ e3.symm; omega
              have hgr : gy < wr.heap.size := by omega
              refine wp_region_held_drew (S := fun w' => w'.cell? ⟨wr.heap.size + 1, 0, none⟩ = some (.int .i64 x.fr) ∧ w'.cell? ⟨wr.heap.size + 1, 1, none⟩ = some (.int .i64 x.to) ∧ w'.cell? ⟨wr.heap.size + 1, 2, none⟩ = some (.int .i64 x.wt) ∧ w'.cell? ⟨wr.heap.size, 2, none⟩ = some (.int .i64 c)) (by kernel_rfl) ⟨e0, e1, e2, r2⟩ (fun hHeld => ?_)
              refine wpAnyH_take (i := 0) (v := ?v0) rfl (by kernel_rfl) (by kernel_rfl) (by kernel_rfl) (fun _ _ _ h => h) (Or.inl ⟨by rfl, ?h0⟩) (by assumption) ?r0
              case h0 => intro w hSw; (try dsimp only at hSw); go_simp <;> with_reducible rfl
              try simp only [Act.put, List.setIfInBounds_toArray]
              refine wpAnyH_take (i := 1) (v := ?v1) rfl (by kernel_rfl) (by kernel_rfl) (by kernel_rfl) (fun _ _ _ h => h) (Or.inl ⟨by rfl, ?h1⟩) (by assumption) ?r1
              case h1 => intro w hSw; (try dsimp only at hSw); go_simp <;> with_reducible rfl
              try simp only [Act.put]
              refine wpAnyH_take (i := 2) (v := ?v2) rfl (by kernel_rfl) (by kernel_rfl) (by kernel_rfl) (fun _ _ _ h => h) (Or.inl ⟨by rfl, ?h2⟩) (by assumption) ?r2
              case h2 => intro w hSw; (try dsimp only at hSw); go_simp <;> with_reducible rfl
              try simp only [Act.put]
              refine wpAnyH_take (i := 3) (v := ?v3) rfl (by kernel_rfl) (by kernel_rfl) (by kernel_rfl) (fun _ _ _ h => h) (Or.inl ⟨by rfl, ?h3⟩) (by assumption) ?r3
              case h3 => intro w hSw; (try dsimp only at hSw); go_simp <;> with_reducible rfl
              try simp only [Act.put]
              refine wpAnyH_take (i := 5) (v := ?v5) rfl (by kernel_rfl) (by kernel_rfl) (by kernel_rfl) (fun _ _ _ h => h) (Or.inl ⟨by rfl, ?h5⟩) (by assumption) ?r5
              case h5 => intro w hSw; (try dsimp only at hSw); go_simp <;> with_reducible rfl
              try simp only [Act.put]
              refine wpAnyH_take (i := 6) (v := ?v6) rfl (by kernel_rfl) (by kernel_rfl) (by kernel_rfl) (fun _ _ _ h => h) (Or.inl ⟨by rfl, ?h6⟩) (by assumption) ?r6
              case h6 => intro w hSw; (try dsimp only at hSw); go_simp <;> with_reducible rfl
              try simp only [Act.put]
              refine wpAnyH_take (i := 7) (v := ?v7) rfl (by kernel_rfl) (by kernel_rfl) (by kernel_rfl) (fun _ _ _ h => h) (Or.inl ⟨by rfl, ?h7⟩) (by assumption) ?r7
              case h7 => intro w hSw; (try dsimp only at hSw); go_simp <;> with_reducible rfl
              try simp only [Act.put]
              refine wpAnyH_take (i := 8) (v := ?v8) rfl (by kernel_rfl) (by kernel_rfl) (by kernel_rfl) (fun _ _ _ h => h) (Or.inl ⟨by rfl, ?h8⟩) (by assumption) ?r8
              case h8 => intro w hSw; (try dsimp only at hSw); go_simp <;> with_reducible rfl
              try simp only [Act.put]
              refine wpAnyH_take (i := 9) (v := ?v9) rfl (by kernel_rfl) (by kernel_rfl) (by kernel_rfl) (fun _ _ _ h => h) (Or.inl ⟨by rfl, ?h9⟩) (by assumption) ?r9
              case h9 => intro w hSw; (try dsimp only at hSw); go_simp <;> with_reducible rfl
              try simp only [Act.put]
              refine wpAnyH_take (i := 10) (v := ?v10) rfl (by kernel_rfl) (by kernel_rfl) (by kernel_rfl) (fun _ _ _ h => h) (Or.inl ⟨by rfl, ?h10⟩) (by assumption) ?r10
              case h10 => intro w hSw; (try dsimp only at hSw); go_simp <;> with_reducible rfl
              try simp only [Act.put]
              refine wpAnyH_take (i := 11) (v := ?v11) rfl (by kernel_rfl) (by kernel_rfl) (by kernel_rfl) (fun _ _ _ h => h) (Or.inl ⟨by rfl, ?h11⟩) (by assumption) ?r11
              case h11 => intro w hSw; (try dsimp only at hSw); go_simp <;> with_reducible rfl
              try simp only [Act.put]
              refine wpAnyH_take (i := 12) (v := ?v12) rfl (by kernel_rfl) (by kernel_rfl) (by kernel_rfl) (fun _ _ _ h => h) (Or.inl ⟨by rfl, ?h12⟩) (by assumption) ?r12
              case h12 => intro w hSw; (try dsimp only at hSw); go_simp <;> with_reducible rfl
              try simp only [Act.put]
              refine wpAnyH_take (i := 13) (v := ?v13) rfl (by kernel_rfl) (by kernel_rfl) (by kernel_rfl) (fun _ _ _ h => h) (Or.inl ⟨by rfl, ?h13⟩) (by assumption) ?r13
              case h13 => intro w hSw; (try dsimp only at hSw); go_simp <;> with_reducible rfl
              try simp only [Act.put]
              refine wpAnyH_ready (rs := [4, 14]) (by kernel_rfl) (by simp) ?_
              refine AllReadyH.cons rfl (fun K hK => ?x4) (AllReadyH.cons rfl (fun K hK => ?x14) AllReadyH.nil)
              case' x4 =>
                go_simp
                refine hK.out _ _ hHeld (fun hHeld => ?_)
                clear hK K
                try simp only [Act.put, List.setIfInBounds_toArray, List.set_cons_zero, List.set_cons_succ]
                refine wpAnyH_ready (rs := [14]) (by kernel_rfl) (by simp) ?_
                refine AllReadyH.cons rfl (fun K hK => ?_) AllReadyH.nil
                go_simp
                refine hK.out _ _ hSl (fun hHeld => ?_)
                clear hK K
                try simp only [Act.put, List.setIfInBounds_toArray, List.set_cons_zero, List.set_cons_succ]
                refine wpAnyH_ready (rs := [15]) (by kernel_rfl) (by simp) ?_
                refine AllReadyH.cons rfl (fun K hK => ?_) AllReadyH.nil
                refine step_append_lies _ (by rfl) _ _ _ (by rfl) w3.heap.size 60 i1 (.agg #[.int .i64 0, .int .i64 0, .int .i64 0, .int .i64 0, .int .i64 0]) 5 40 Tryd.underlying36 gi gz0 gz1 gz2 rfl (by decide) (.slice vA vN vC) vN (ve.flatMap encSEdge) (by rfl) (HIN2.out.own) ⟨wB.heap.size, 0, none⟩ 1 1 (encSEdge ⟨x.fr, x.to, x.wt, c, 0⟩) (by rfl) (by rfl) (World.news_of_block (heap_alloc_new wB (.cells #[.int .i64 x.fr, .int .i64 x.to, .int .i64 x.wt, .int .i64 c, .int .i64 0] 60))) (oneSEdgeV _) (by decide) (by unfold maxLen; omega) (by omega) (by simp at hsl ⊢; omega) _ rfl ?_; rintro g9 C9 w9 ho9 hg9 hor9 hlt9; have hro := own_keep HIL.out.own.nest.row.own (fun q hq => hg9.block q (HIL.out.own.nest.row.lt q hq) (fun e2 => HAP.out q e2.symm hq)); have hfr := hro.frozenAt (p * 3 + 2); have hcv := hg9.cell (cell_later hld sv) (fun e2 => HAP.out gy e2.symm rfl); have hS9 : w9.cell? ⟨wr.heap.size + 1, 0, none⟩ = some (.int .i64 x.fr) ∧ w9.cell? ⟨wr.heap.size + 1, 1, none⟩ = some (.int .i64 x.to) ∧ w9.cell? ⟨wr.heap.size + 1, 2, none⟩ = some (.int .i64 x.wt) ∧ w9.cell? ⟨wr.heap.size, 2, none⟩ = some (.int .i64 c) := ⟨hg9.cell hSl.1 (hnA 1), hg9.cell hSl.2.1 (hnA 1), hg9.cell hSl.2.2.1 (hnA 1), hg9.cell hSl.2.2.2 (hnA 0)⟩; have hSs : ∀ u, (w9.setCell ⟨gy, p * 3 + 2, none⟩ u).cell? ⟨wr.heap.size + 1, 0, none⟩ = some (.int .i64 x.fr) ∧ (w9.setCell ⟨gy, p * 3 + 2, none⟩ u).cell? ⟨wr.heap.size + 1, 1, none⟩ = some (.int .i64 x.to) ∧ (w9.setCell ⟨gy, p * 3 + 2, none⟩ u).cell? ⟨wr.heap.size + 1, 2, none⟩ = some (.int .i64 x.wt) ∧ (w9.setCell ⟨gy, p * 3 + 2, none⟩ u).cell? ⟨wr.heap.size, 2, none⟩ = some (.int .i64 c) := fun u => set_keep4 hgr hS9
                refine hK.out _ _ hS9 (fun hHeld => ?_)
                clear hK K
                try simp only [Act.put, List.setIfInBounds_toArray]
                refine wpAnyH_take (i := 16) (v := ?v16a) rfl (by kernel_rfl) (by kernel_rfl) (by kernel_rfl) (fun _ _ _ h => h) (Or.inl ⟨by rfl, ?h16a⟩) (by assumption) ?r16a
                case h16a => intro w hSw; (try dsimp only at hSw); go_simp <;> with_reducible rfl
                try simp only [Act.put]
                refine wpAnyH_take (i := 17) (v := ?v17a) rfl (by kernel_rfl) (by kernel_rfl) (by kernel_rfl) (fun _ _ _ h => h) (Or.inl ⟨by rfl, ?h17a⟩) (by assumption) ?r17a
                case h17a => intro w hSw; (try dsimp only at hSw); go_simp <;> with_reducible rfl
                try simp only [Act.put]
                refine wpAnyH_ready (rs := [18]) (by kernel_rfl) (by simp) ?_
                refine AllReadyH.cons rfl (fun K hK => ?_) AllReadyH.nil
                go_simp
                refine hK.out _ _ (hSs _) (fun hHeld => ?_)
                clear hK K
                try simp only [Act.put, List.setIfInBounds_toArray, List.set_cons_zero, List.set_cons_succ]
                refine wpAnyH_done (by kernel_rfl) ?_ _
              case' x14 =>
                go_simp
                refine hK.out _ _ hSl (fun hHeld => ?_)
                clear hK K
                try simp only [Act.put, List.setIfInBounds_toArray, List.set_cons_zero, List.set_cons_succ]
                refine wpAnyH_ready (rs := [4]) (by kernel_rfl) (by simp) ?_
                refine AllReadyH.cons rfl (fun K hK => ?_) AllReadyH.nil
                go_simp
                refine hK.out _ _ hSl (fun hHeld => ?_)
                clear hK K
                try simp only [Act.put, List.setIfInBounds_toArray, List.set_cons_zero, List.set_cons_succ]
                refine wpAnyH_ready (rs := [15]) (by kernel_rfl) (by simp) ?_
                refine AllReadyH.cons rfl (fun K hK => ?_) AllReadyH.nil
                refine step_append_lies _ (by rfl) _ _ _ (by rfl) w3.heap.size 60 i1 (.agg #[.int .i64 0, .int .i64 0, .int .i64 0, .int .i64 0, .int .i64 0]) 5 40 Tryd.underlying36 gi gz0 gz1 gz2 rfl (by decide) (.slice vA vN vC) vN (ve.flatMap encSEdge) (by rfl) (HIN2.out.own) ⟨wB.heap.size, 0, none⟩ 1 1 (encSEdge ⟨x.fr, x.to, x.wt, c, 0⟩) (by rfl) (by rfl) (World.news_of_block (heap_alloc_new wB (.cells #[.int .i64 x.fr, .int .i64 x.to, .int .i64 x.wt, .int .i64 c, .int .i64 0] 60))) (oneSEdgeV _) (by decide) (by unfold maxLen; omega) (by omega) (by simp at hsl ⊢; omega) _ rfl ?_; rintro g9 C9 w9 ho9 hg9 hor9 hlt9; have hro := own_keep HIL.out.own.nest.row.own (fun q hq => hg9.block q (HIL.out.own.nest.row.lt q hq) (fun e2 => HAP.out q e2.symm hq)); have hfr := hro.frozenAt (p * 3 + 2); have hcv := hg9.cell (cell_later hld sv) (fun e2 => HAP.out gy e2.symm rfl); have hS9 : w9.cell? ⟨wr.heap.size + 1, 0, none⟩ = some (.int .i64 x.fr) ∧ w9.cell? ⟨wr.heap.size + 1, 1, none⟩ = some (.int .i64 x.to) ∧ w9.cell? ⟨wr.heap.size + 1, 2, none⟩ = some (.int .i64 x.wt) ∧ w9.cell? ⟨wr.heap.size, 2, none⟩ = some (.int .i64 c) := ⟨hg9.cell hSl.1 (hnA 1), hg9.cell hSl.2.1 (hnA 1), hg9.cell hSl.2.2.1 (hnA 1), hg9.cell hSl.2.2.2 (hnA 0)⟩; have hSs : ∀ u, (w9.setCell ⟨gy, p * 3 + 2, none⟩ u).cell? ⟨wr.heap.size + 1, 0, none⟩ = some (.int .i64 x.fr) ∧ (w9.setCell ⟨gy, p * 3 + 2, none⟩ u).cell? ⟨wr.heap.size + 1, 1, none⟩ = some (.int .i64 x.to) ∧ (w9.setCell ⟨gy, p * 3 + 2, none⟩ u).cell? ⟨wr.heap.size + 1, 2, none⟩ = some (.int .i64 x.wt) ∧ (w9.setCell ⟨gy, p * 3 + 2, none⟩ u).cell? ⟨wr.heap.size, 2, none⟩ = some (.int .i64 c) := fun u => set_keep4 hgr hS9
                refine hK.out _ _ hS9 (fun hHeld => ?_)
                clear hK K
                try simp only [Act.put, List.setIfInBounds_toArray]
                refine wpAnyH_take (i := 16) (v := ?v16b) rfl (by kernel_rfl) (by kernel_rfl) (by kernel_rfl) (fun _ _ _ h => h) (Or.inl ⟨by rfl, ?h16b⟩) (by assumption) ?r16b
                case h16b => intro w hSw; (try dsimp only at hSw); go_simp <;> with_reducible rfl
                try simp only [Act.put]
                refine wpAnyH_take (i := 17) (v := ?v17b) rfl (by kernel_rfl) (by kernel_rfl) (by kernel_rfl) (fun _ _ _ h => h) (Or.inl ⟨by rfl, ?h17b⟩) (by assumption) ?r17b
                case h17b => intro w hSw; (try dsimp only at hSw); go_simp <;> with_reducible rfl
                try simp only [Act.put]
                refine wpAnyH_ready (rs := [18]) (by kernel_rfl) (by simp) ?_
                refine AllReadyH.cons rfl (fun K hK => ?_) AllReadyH.nil
                go_simp
                refine hK.out _ _ (hSs _) (fun hHeld => ?_)
                clear hK K
                try simp only [Act.put, List.setIfInBounds_toArray, List.set_cons_zero, List.set_cons_succ]
                refine wpAnyH_done (by kernel_rfl) ?_ _
              all_goals
                have hPUT := HIL.out.put2 p gy hpl ⟨vl, vh, vA, vN, vC, ve⟩ HV.out rfl (some ⟨g9, 0, none⟩) C9 ⟨x.fr, x.to, x.wt, c, 0⟩ ho9 hg9 (by
                  rcases hor9 with h9 | h9
                  · exact Or.inl h9.symm
                  · refine Or.inr (fun g hg => ?_)
                    have e1 : g9 = g := by simpa [Value.ownBlock] using hg
                    rw [← e1]
                    exact Nat.le_of_eq h9.symm) (by show vN < 1000000; omega)
                have hst := HST.out
                rw [HDP.out.1, HDP.out.2.1, HDP.out.2.2, HSE.out, ← HTK.out] at hst
                have HN := Lib.hid (show ShInv w3.heap.size (w9.setCell ⟨gy, p * 3 + 2, none⟩ (.slice (some ⟨g9, 0, none⟩) (vN + 1) C9)) ⟨some ⟨gy, 0, none⟩, yN, yC, yl.set p ⟨vl, vh, some ⟨g9, 0, none⟩, vN + 1, C9, ve ++ [⟨x.fr, x.to, x.wt, c, 0⟩]⟩⟩ (dealtTo es xs (zL.take (t + 1)) q) from by rw [← hst]; exact hPUT)
                have HXN := Lib.hid (show ∀ y ∈ yl.set p ⟨vl, vh, some ⟨g9, 0, none⟩, vN + 1, C9, ve ++ [⟨x.fr, x.to, x.wt, c, 0⟩]⟩, ∀ g, blkR (slShard y) = some g → w5.heap.size ≤ g from by
                  intro y hy g hg
                  rcases List.mem_or_eq_of_mem_set hy with h1 | h1
                  · exact HX.out y h1 g hg
                  · subst h1
                    have e1 : g9 = g := by simpa [blkR, slShard, Value.ownBlock] using hg
                    rw [← e1]
                    rcases hor9 with h9 | h9
                    · exact hXp.out g9 h9
                    · rw [h9]; exact Nat.le_trans hs5r hsl)
                have HWN := Lib.hid (((hW.trans (Win.of_below hlB)).then_below (below_grown hg9 (B := w5.heap.size) (Nat.le_trans hs5r hsl) (fun q hq => hXp.out q hq))).trans (Win.set (lo := w3.heap.size) (hi := w4.heap.size) w9 gy (p * 3 + 2) (.slice (some ⟨g9, 0, none⟩) (vN + 1) C9) hgy.1 hgy.2))
                clear hSl hS9 hSs hPUT hst ho9 hg9 hor9 hlt9 hro hfr hcv HI HX hW BW3 BW r2 e0 e1 e2 sv svl
                go_wp2
                go_roundw
                case rel => exact ⟨t + 1, _, by omega, by go_num, HN, HXN, HWN.out⟩
                case measure => simp [intOf]; omega
            · have hyl := HI.out.own.nest.row.len
              have hq2 : q = es.length := by rw [hL2.out]; omega
              have hI := HI.out
              rw [List.take_of_length_le (by have := HOZ.out.row.len; simp only at this; omega)] at hI
              rw [hq2] at hI
              have HIF := Lib.hid hI
              clear hI
              go_wp2
              go_ret
              rw [HR.out]
              exact ⟨⟨yA, yN, yC, yl⟩, rfl, HIF.out.dat, HIF.out.own.lo_le (Nat.le_trans (Nat.le_of_lt sz2) hsz3), HIF.out.bulk (by omega) (by have := HOZ.out.row.len; simp only at this; omega), BW⟩
set_option maxRecDepth 100000 in
set_option maxHeartbeats 6400000 in
theorem shards_impl (n : Int) (a : Option Addr) (m cap : Nat) (xs : List EdgeR) (a2 : Option Addr) (m2 cap2 : Nat) (es : List Int) (size : Int) (w : World) (h : Rd encEdge 3 w a m cap xs) (h' : Rd (encI .i64) 1 w a2 m2 cap2 es) (hm2 : m2 ≤ 1048576) (hz : In64 size) :
    Calls Tryd.prog 7 #[.agg #[.int .i64 n, .slice a m cap], .slice a2 m2 cap2, .int .i64 size] w fun e w' => RetShs (shardsF n xs es size) w e w' := by
  have hL := Lib.hid h.len
  have hL2 := Lib.hid h'.len
  have hm := h.max
  have hle := h.le
  unfold maxLen at hm
  have hb0 := (Below.refl w.heap.size w).alloc (Nat.le_refl _) (.cells #[.int .i64 n, .slice a m cap] 25)
  cases hg : graphB n xs with
  | false =>
    have HG := Lib.hid hg
    have HR := Lib.hid (shardsF_no (n := n) (xs := xs) (es := es) (size := size) (by rw [hg]; simp))
    clear hg
    go_enter Tryd.func7, Tryd.ntmps7
    go_wp2_with fail
    refine (graphOk_impl n a m cap xs _ (h.below hb0 (Nat.le_refl _))).mono ?_
    rintro e w1 ⟨rfl, hb1⟩
    rw [HG.out]
    have BB1 := hb0.trans (hb1.mono (by simp))
    go_wp2
    go_ret
    rw [HR.out]
    exact RetShs.nil _ _ BB1
  | true =>
    cases he : endsB n es with
    | false =>
      have HG := Lib.hid hg
      have HE := Lib.hid he
      have HR := Lib.hid (shardsF_no (n := n) (xs := xs) (es := es) (size := size) (by rw [he]; simp))
      clear hg he
      go_enter Tryd.func7, Tryd.ntmps7
      go_wp2_with fail
      refine (graphOk_impl n a m cap xs _ (h.below hb0 (Nat.le_refl _))).mono ?_
      rintro e w1 ⟨rfl, hb1⟩
      rw [HG.out]
      obtain ⟨hc, hf⟩ := bcell hb1
      have c0 : w1.cell? ⟨w.heap.size, 0, none⟩ = some (.int .i64 n) := by rw [hc _ _ (by simp)]; simp [go_sem]
      have BB1 := hb0.trans (hb1.mono (by simp))
      clear hc hf
      go_wp2_with fail
      refine (endsOk_impl n a2 m2 cap2 es _ (h'.below BB1 (Nat.le_refl _))).mono ?_
      rintro e w2 ⟨rfl, hb2⟩
      rw [HE.out]
      have BB2 := BB1.trans (hb2.mono BB1.size)
      go_wp2
      go_ret
      rw [HR.out]
      exact RetShs.nil _ _ BB2
    | true =>
      by_cases hs : 1 ≤ size
      · exact shards_impl_y n a m cap xs a2 m2 cap2 es size w h h' hm2 hz hg he hs
      · have HG := Lib.hid hg
        have HE := Lib.hid he
        have HR := Lib.hid (shardsF_no (n := n) (xs := xs) (es := es) (size := size) (by rintro ⟨_, _, h3⟩; exact hs h3))
        have hs1 : size < 1 := by omega
        clear hg he
        go_enter Tryd.func7, Tryd.ntmps7
        go_wp2_with fail
        refine (graphOk_impl n a m cap xs _ (h.below hb0 (Nat.le_refl _))).mono ?_
        rintro e w1 ⟨rfl, hb1⟩
        rw [HG.out]
        obtain ⟨hc, hf⟩ := bcell hb1
        have c0 : w1.cell? ⟨w.heap.size, 0, none⟩ = some (.int .i64 n) := by rw [hc _ _ (by simp)]; simp [go_sem]
        have BB1 := hb0.trans (hb1.mono (by simp))
        clear hc hf
        go_wp2_with fail
        refine (endsOk_impl n a2 m2 cap2 es _ (h'.below BB1 (Nat.le_refl _))).mono ?_
        rintro e w2 ⟨rfl, hb2⟩
        rw [HE.out]
        have BB2 := BB1.trans (hb2.mono BB1.size)
        go_wp2
        go_ret
        rw [HR.out]
        exact RetShs.nil _ _ BB2
theorem shards_impl_k (y : GraphR) (D : Int × List EdgeR) (hD : datGraph y = D) (v : Row Int) (E : List Int) (hE : datIntS v = E) (size : Int) (w : World) (g : goodGraph w y) (h' : rdIntS w v) (hn : bulkIntS v ≤ 1048576) (hz : In64 size) :
    Calls Tryd.prog 7 #[.agg #[.int .i64 y.n, .slice y.edgesA y.edgesN y.edgesC], .slice v.a v.n v.c, .int .i64 size] w fun e w' => RetShs (shardsF D.1 D.2 E size) w e w' := by
  subst hD
  subst hE
  exact shards_impl _ _ _ _ _ _ _ _ _ _ _ g.2.1 h' hn hz
end Go.Proofs.YthffmjeodoinlaaDoor

/- Cut of the program and of the reference: what they compute. -/
namespace Go.Proofs.YthffmjeodoinlaaDoor
open Go.RowKit
def cutG (n : Int) (xs : List EdgeR) (b : Int) : List Int := if graphB n xs = true ∧ 1 ≤ b ∧ b ≤ 400 then cutL b (tally n.toNat (degI EdgeR.to xs)) else []
theorem cutG_no {n : Int} {xs : List EdgeR} {b : Int} (h : ¬ (graphB n xs = true ∧ 1 ≤ b ∧ b ≤ 400)) : cutG n xs b = [] := if_neg h
theorem cutG_yes {n : Nat} {xs : List EdgeR} {b : Int} (h : graphB n xs = true) (h1 : 1 ≤ b) (h2 : b ≤ 400) : cutG n xs b = cutL b (tally n (degI EdgeR.to xs)) := if_pos ⟨h, h1, h2⟩
/-- What the reference has still to write in front of vertex k, sm in hand. -/
def stF (b : Int) (D : List Int) (k : Nat) (sm : Int) : List Int := if k = 0 then cutL b D else cutF b sm k (D.drop k)
theorem stF_zero (b : Int) (D : List Int) (sm : Int) : stF b D 0 sm = cutL b D := if_pos rfl
theorem stF_pos (b : Int) (D : List Int) {k : Nat} (h : 0 < k) (sm : Int) : stF b D k sm = cutF b sm k (D.drop k) := if_neg (by omega)
theorem step_first {b : Int} {D ys : List Int} {sm : Int} (h : 0 < D.length) (he : ys ++ stF b D 0 sm = cutL b D) : ys ++ stF b D 1 (0 + D.getD 0 0) = cutL b D := by
  rw [stF_pos _ _ (by omega), Int.zero_add, ← cutL_start b h, ← he, stF_zero]
  rw [stF_zero] at he
  exact he.symm ▸ he
theorem step_over {b : Int} {D ys : List Int} {k : Nat} {sm : Int} (h : k < D.length) (h0 : 0 < k) (hs : b < sm + D.getD k 0) (he : ys ++ stF b D k sm = cutL b D) : (ys ++ [(k : Int)]) ++ stF b D (k + 1) (0 + D.getD k 0) = cutL b D := by
  rw [stF_pos _ _ (by omega), Int.zero_add, List.append_assoc]
  rw [stF_pos _ _ h0, cutF_over h hs] at he
  exact he
theorem step_in {b : Int} {D ys : List Int} {k : Nat} {sm : Int} (h : k < D.length) (h0 : 0 < k) (hs : sm + D.getD k 0 ≤ b) (he : ys ++ stF b D k sm = cutL b D) : ys ++ stF b D (k + 1) (sm + D.getD k 0) = cutL b D := by
  rw [stF_pos _ _ (by omega)]
  rw [stF_pos _ _ h0, cutF_in h hs] at he
  exact he
theorem end_pos {b : Int} {D ys : List Int} {sm : Int} (h0 : 0 < D.length) (he : ys ++ stF b D D.length sm = cutL b D) : ys ++ [(D.length : Int)] = cutL b D := by
  rw [stF_pos _ _ h0, cutF_end] at he
  exact he
theorem end_zero {b : Int} {D ys : List Int} {sm : Int} (h0 : D.length = 0) (he : ys ++ stF b D 0 sm = cutL b D) : ys = cutL b D := by
  obtain rfl : D = [] := List.eq_nil_of_length_eq_zero h0
  rw [stF_zero] at he
  simpa [cutL] using he
theorem in_start {b : Int} {D ys : List Int} {v : Nat} (h : v < D.length) (he : ys ++ cutRest b D v = cutL b D) : ys ++ cutF b (D.getD v 0) (v + 1) (D.drop (v + 1)) = cutL b D := by
  rw [cutRest_lt b h] at he; exact he
theorem in_step {b sm : Int} {D ys : List Int} {u : Nat} (h : u < D.length) (hs : sm + D.getD u 0 ≤ b) (he : ys ++ cutF b sm u (D.drop u) = cutL b D) : ys ++ cutF b (sm + D.getD u 0) (u + 1) (D.drop (u + 1)) = cutL b D := by
  rw [cutF_in h hs] at he; exact he
theorem in_end {b sm : Int} {D ys : List Int} {u : Nat} (h : u ≤ D.length) (hs : u < D.length → b < sm + D.getD u 0) (he : ys ++ cutF b sm u (D.drop u) = cutL b D) : (ys ++ [(u : Int)]) ++ cutRest b D u = cutL b D := by
  rw [cutF_rest h hs] at he; rw [List.append_assoc]; exact he
set_option maxRecDepth 100000 in
set_option maxHeartbeats 1600000 in
theorem cut_impl (n : Int) (a : Option Addr) (m cap : Nat) (xs : List EdgeR) (b : Int) (w : World) (h : Rd encEdge 3 w a m cap xs) (g1 : In64 b) :
    Calls Tryd.prog 5 #[.agg #[.int .i64 n, .slice a m cap], .int .i64 b] w fun e w' => RetL .i64 3 (cutG n xs b) w e w' := by
  have hL := Lib.hid h.len
  have hm := h.max
  have hle := h.le
  unfold maxLen at hm
  unfold In64 at g1
  have hb0 := (Below.refl w.heap.size w).alloc (Nat.le_refl _) (.cells #[.int .i64 n, .slice a m cap] 25)
  cases hg : graphB n xs with
  | false =>
    have HG := Lib.hid hg
    have HR := Lib.hid (cutG_no (n := n) (xs := xs) (b := b) (by rw [hg]; simp))
    clear hg
    go_enter Tryd.func5, Tryd.ntmps5
    go_wp2_with fail
    refine (graphOk_impl n a m cap xs _ (h.below hb0 (Nat.le_refl _))).mono ?_
    rintro e w1 ⟨rfl, hb1⟩
    rw [HG.out]
    go_wp2
    go_ret
    rw [HR.out]
    have BB1 := hb0.trans (hb1.mono (by simp))
    exact ⟨none, 0, 0, rfl, (OwnI.nil _ _ _ _), BB1⟩
  | true =>
    by_cases hbb : 1 ≤ b ∧ b ≤ 400
    · obtain ⟨p1, p2⟩ := hbb
      obtain ⟨q1, q2, q3, q4⟩ := graphB_yes hg
      obtain ⟨N, rfl⟩ := Int.eq_ofNat_of_zero_le q1
      have HR := Lib.hid (cutG_yes hg p1 p2)
      have HDG := Lib.hid (degG_yes (f := EdgeR.to) hg)
      have HG := Lib.hid hg
      rw [hL.out] at q3
      clear hg q4
      obtain ⟨i0, hi, hz0, hz1, hz2⟩ := info_parts infoIntS
      go_enter Tryd.func5, Tryd.ntmps5
      go_wp2_with fail
      refine (graphOk_impl _ a m cap xs _ (h.below hb0 (Nat.le_refl _))).mono ?_
      rintro e w1 ⟨rfl, hb1⟩
      rw [HG.out]
      obtain ⟨hc, hf⟩ := bcell hb1
      have c0 : w1.cell? ⟨w.heap.size, 0, none⟩ = some (.int .i64 N) := by rw [hc _ _ (by simp)]; simp [go_sem]
      have c1 : w1.cell? ⟨w.heap.size, 1, none⟩ = some (.slice a m cap) := by rw [hc _ _ (by simp)]; simp [go_sem]
      have BB1 := hb0.trans (hb1.mono (by simp))
      have sz1 : w.heap.size < w1.heap.size := by have := hb1.size; simp at this; omega
      clear hc hf hb1
      go_wp2_with fail
      refine (inDegs_impl N a m cap xs _ (h.below BB1 (Nat.le_refl _))).mono ?_
      rintro e w2 ⟨da, dn, dc, rfl, hD, hb2⟩
      rw [HDG.out] at hD
      have hbd0 := fun j => tally_bd N (degI EdgeR.to xs) j
      have hln : (degI EdgeR.to xs).length ≤ 400 := by simp [degI, hL.out]; omega
      have HBD := Lib.hid (fun j => (⟨(hbd0 j).1, by have := (hbd0 j).2; omega⟩ : 0 ≤ (tally N (degI EdgeR.to xs)).getD j 0 ∧ (tally N (degI EdgeR.to xs)).getD j 0 ≤ 400))
      have hDL := tally_len N (degI EdgeR.to xs)
      generalize tally N (degI EdgeR.to xs) = D at *
      clear hbd0 hln
      obtain rfl : dn = N := by rw [← hD.len, hDL]
      have HDL := Lib.hid hDL
      have d0 := cell_later hb2 c0
      have BB2 := BB1.trans (hb2.mono BB1.size)
      have sz2 : w.heap.size < w2.heap.size := Nat.lt_of_lt_of_le sz1 hb2.size
      have hDr := hD.rd
      clear hD hDL hb2
      clear c0 c1
      go_wp2
      go_loopw [6, 7, 8] (fun t v _ wr => ∃ (A : Option Addr) (r C u : Nat) (ys : List Int), u ≤ dn ∧ v = .int .i64 u ∧ t = .slice A r C ∧ wr.ownsRow w2.heap.size 3 1 (.slice A r C) r (ys.map (.int .i64)) ∧ ys.length = r ∧ r ≤ u ∧ ys ++ cutRest b D u = cutL b D ∧ Below w2.heap.size w2 wr) (fun _ v _ _ => dn - (intOf v).toNat)
      case atStart => exact ⟨none, 0, 0, 0, [], Nat.zero_le _, rfl, rfl, World.ownsRow_nil _ _ _ _, rfl, Nat.le_refl _, by rw [cutRest_zero]; rfl, Below.refl _ _⟩
      case round =>
        obtain ⟨A, r, C, u, ys, hu, rfl, rfl, ho, hyl, hr, he, hb⟩ := hrel
        have HE := Lib.hid he
        have HYL := Lib.hid hyl
        clear he hyl
        have e0 := cell_later hb d0
        have szr := hb.size
        by_cases hlt : u < dn
        · obtain ⟨gd, od, rfl, hgl, hcd⟩ := hDr.ints (by omega)
          have HCD : Hid (∀ j, j < dn → wr.cell? ⟨gd, od + j, none⟩ = some (.int .i64 (D[j]?.getD 0))) := Lib.hid (fun j hj => (hb.cell (p := ⟨gd, od + j, none⟩) hgl).trans (hcd j hj))
          have HST := Lib.hid (in_start (by rw [HDL.out]; exact hlt) HE.out)
          obtain ⟨v0, v1⟩ := HBD.out u
          have k0 := HCD.out u hlt
          clear hcd d0
          have HGD : Hid (∀ j, D[j]?.getD 0 = D.getD j 0) := Lib.hid (fun j => by simp [List.getD])
          rw [HGD.out u] at k0
          generalize D.getD u 0 = d at *
          go_wp2
          clear k0
          obtain ⟨wo, rfl⟩ : ∃ wo : World, wo = wr := ⟨_, rfl⟩
          go_loop [7, 8] (fun v s => ∃ (q : Nat) (sm : Int), u < q ∧ q ≤ dn ∧ v = .int .i64 q ∧ s = .int .i64 sm ∧ 0 ≤ sm ∧ sm ≤ 400 * q ∧ ys ++ cutF b sm q (D.drop q) = cutL b D) (fun v _ => dn - (intOf v).toNat)
          case atStart => exact ⟨u + 1, d, by omega, by omega, by go_num, rfl, v0, by omega, HST.out⟩
          case round =>
            obtain ⟨q, sm, hq1, hq2, rfl, rfl, s0, s1, hes⟩ := hrel
            have HES := Lib.hid hes
            clear hes HST v0 v1
            by_cases hqn : q < dn
            · have k1 := HCD.out q hqn
              rw [HGD.out q] at k1
              obtain ⟨v0, v1⟩ := HBD.out q
              have HI := Lib.hid (fun hs => in_step (by rw [HDL.out]; exact hqn) hs HES.out)
              have HO := Lib.hid (fun hs => in_end (by rw [HDL.out]; exact hq2) (fun _ => hs) HES.out)
              generalize D.getD q 0 = d2 at *
              by_cases hs : sm + d2 ≤ b
              · have HI2 := Lib.hid (HI.out hs)
                clear HI HO
                go_wp2
                go_round
                case rel => exact ⟨q + 1, sm + d2, by omega, by omega, by go_num, rfl, by omega, by omega, HI2.out⟩
                case measure => simp [intOf]; omega
              · have hs' : b < sm + d2 := by omega
                have HO2 := Lib.hid (HO.out hs')
                clear HI HO hs
                go_wp2_with (at_builtin; refine app_any rfl _ _ 27 rfl w2.heap.size 3 Tryd.underlying27 hi hz0 hz1 hz2 rfl (by decide) A r C (ys.map (.int .i64)) rfl (ho.alloc _) (some ⟨wo.heap.size, 0, none⟩) 1 1 [.int .i64 (q : Int)] rfl rfl (one_news _ _ _) (fun hh => by cases hh) (int_one _ _) ?c4 ?c5 ?c6 ?_)
                case c4 => unfold maxLen; omega
                case c5 => omega
                case c6 => first | omega | (simp; omega)
                intro A2 C2 w4 ho2 hb4
                have hb5 := (hb.alloc szr (.cells #[.int .i64 (q : Int)] 3)).trans hb4
                go_wp2
                go_roundw
                case rel => exact ⟨A2, r + 1, C2, q, ys ++ [(q : Int)], by omega, rfl, rfl, by rw [List.map_append]; exact ho2, by rw [List.length_append, HYL.out]; rfl, by omega, HO2.out, hb5⟩
                case measure => simp [intOf]; omega
            · obtain rfl : q = dn := by omega
              have HO2 := Lib.hid (in_end (by rw [HDL.out]; exact Nat.le_refl _) (fun hh => by rw [HDL.out] at hh; omega) HES.out)
              go_wp2_with (at_builtin; refine app_any rfl _ _ 27 rfl w2.heap.size 3 Tryd.underlying27 hi hz0 hz1 hz2 rfl (by decide) A r C (ys.map (.int .i64)) rfl (ho.alloc _) (some ⟨wo.heap.size, 0, none⟩) 1 1 [.int .i64 (q : Int)] rfl rfl (one_news _ _ _) (fun hh => by cases hh) (int_one _ _) ?e4 ?e5 ?e6 ?_)
              case e4 => unfold maxLen; omega
              case e5 => omega
              case e6 => first | omega | (simp; omega)
              intro A2 C2 w4 ho2 hb4
              have hb5 := (hb.alloc szr (.cells #[.int .i64 (q : Int)] 3)).trans hb4
              go_wp2
              go_roundw
              case rel => exact ⟨A2, r + 1, C2, q, ys ++ [(q : Int)], by omega, rfl, rfl, by rw [List.map_append]; exact ho2, by rw [List.length_append, HYL.out]; rfl, by omega, HO2.out, hb5⟩
              case measure => simp [intOf]; omega
        · obtain rfl : u = dn := by omega
          have HF : Hid (ys = cutL b D) := Lib.hid (by have := HE.out; rw [show cutRest b D u = [] from by rw [← HDL.out]; exact cutRest_end b D, List.append_nil] at this; exact this)
          go_wp2
          go_ret
          rw [HR.out, ← HF.out]
          exact ⟨A, r, C, rfl, (OwnI.of ho HYL.out (by omega)).lo_le BB2.size, BB2.trans (hb.mono BB2.size)⟩
    · have HG := Lib.hid hg
      have HR := Lib.hid (cutG_no (n := n) (xs := xs) (b := b) (fun hh => hbb hh.2))
      clear hg
      by_cases p1 : 1 ≤ b
      · have p2 : 400 < b := by omega
        clear hbb
        go_enter Tryd.func5, Tryd.ntmps5
        go_wp2_with fail
        refine (graphOk_impl n a m cap xs _ (h.below hb0 (Nat.le_refl _))).mono ?_
        rintro e w1 ⟨rfl, hb1⟩
        rw [HG.out]
        go_wp2
        go_ret
        rw [HR.out]
        have BB1 := hb0.trans (hb1.mono (by simp))
        exact ⟨none, 0, 0, rfl, (OwnI.nil _ _ _ _), BB1⟩
      · clear hbb
        go_enter Tryd.func5, Tryd.ntmps5
        go_wp2_with fail
        refine (graphOk_impl n a m cap xs _ (h.below hb0 (Nat.le_refl _))).mono ?_
        rintro e w1 ⟨rfl, hb1⟩
        rw [HG.out]
        go_wp2
        go_ret
        rw [HR.out]
        have BB1 := hb0.trans (hb1.mono (by simp))
        exact ⟨none, 0, 0, rfl, (OwnI.nil _ _ _ _), BB1⟩
theorem cut_impl_u (y : GraphR) (D : Int × List EdgeR) (hD : datGraph y = D) (b : Int) (w : World) (g : goodGraph w y) (g1 : In64 b) :
    Calls Tryd.prog 5 #[.agg #[.int .i64 y.n, .slice y.edgesA y.edgesN y.edgesC], .int .i64 b] w fun e w' => RetL .i64 3 (cutG D.1 D.2 b) w e w' := by
  subst hD
  exact cut_impl _ _ _ _ _ _ _ g.2.1 g1
end Go.Proofs.YthffmjeodoinlaaDoor

/- Parts of the program and of the reference: what each call does. -/
namespace Go.Proofs.YthffmjeodoinlaaDoor
open Go.RowKit
theorem size_dataB (s : ByteArray) : s.data.toList.length = s.size := by rw [size_data]
/-- A call that returns a row of strings of its own. -/
def RetS (L : List (List UInt8)) (w : World) (e : Ending) (w' : World) : Prop := ∃ (a : Option Addr) (n c : Nat), e = .returned (.slice a n c) ∧ OwnS encS 1 9 w.heap.size w'.heap.size w' a n c (L.map mkB) ∧ Below w.heap.size w w'
theorem split_cut (s : ByteArray) (c : UInt8) : Lib.splitB ⟨#[c]⟩ 0 (Lib.countB s ⟨#[c]⟩) s = (cutAt c s.data.toList).map mkB := by
  rw [← splitB_cut, List.map_map]
  conv => lhs; rw [← List.map_id (Lib.splitB ⟨#[c]⟩ 0 (Lib.countB s ⟨#[c]⟩) s)]
  exact List.map_congr_left fun x _ => (mkB_of x).symm
theorem OwnS.rdS {lo hi : Nat} {w : World} {a : Option Addr} {n c : Nat} {xs : List ByteArray} (h : OwnS encS 1 9 lo hi w a n c xs) : Rd encS 1 w a n c xs := OwnS.rd lenS h
theorem extr (s : ByteArray) (u k : Nat) : s.extract u k = mkB ((s.data.toList.drop u).take (k - u)) := bs_data (by rw [Lib.extract_data, mkB_data])
theorem str_snoc (out : List (List UInt8)) (p : List UInt8) : ((out ++ [p]).map mkB).map Value.string = (out.map mkB).map Value.string ++ [.string (mkB p)] := by simp
theorem infoStr : (Tryd.prog.info? 9).map (fun i => (i.zero, i.size, i.bytes)) = some (some (.string ⟨#[]⟩), 1, 16) := by kernel_rfl
theorem one_str (v : ByteArray) : ∀ u ∈ [Value.string v], u.oneCell' = true := by intro u hu; simp at hu; subst hu; rfl
end Go.Proofs.YthffmjeodoinlaaDoor

/- words of the program, l04Line of the reference: numbers in a line. -/
namespace Go.Proofs.YthffmjeodoinlaaDoor
open Go.RowKit
/-- Numbers with blanks between. -/
def numsB (zs : List Int) : List UInt8 := Lib.join (zs.map numL) [32]
theorem join_snoc (x : List UInt8) (r : List (List UInt8)) (a : List UInt8) (sep : List UInt8) : Lib.join (x :: r ++ [a]) sep = Lib.join (x :: r) sep ++ sep ++ a := by
  rw [List.cons_append, Lib.join_cons, Lib.join_cons]
  simp [Lib.joinTail]
theorem numsB_first (zs : List Int) (h : 0 < zs.length) : numsB (zs.take 1) = numL (zs.getD 0 0) := by
  cases zs with
  | nil => simp at h
  | cons z r => exact Lib.join_one _ _
theorem numsB_next (zs : List Int) (k : Nat) (hk : 0 < k) (h : k < zs.length) : numsB (zs.take (k + 1)) = numsB (zs.take k) ++ [32] ++ numL (zs.getD k 0) := by
  unfold numsB
  rw [List.take_succ_eq_append_getElem h, List.map_append]
  cases zs with
  | nil => simp at h
  | cons z r =>
    obtain ⟨j, rfl⟩ : ∃ j, k = j + 1 := ⟨k - 1, by omega⟩
    rw [List.take_succ_cons, List.map_cons, List.map_cons, List.map_nil, join_snoc]
    simp [List.getD, show j < r.length by simpa using h]
theorem numsB_len (zs : List Int) : ∀ k, k ≤ zs.length → (numsB (zs.take k)).length ≤ 16 * k := by
  intro k
  induction k with
  | zero => intro _; simp [numsB, Lib.join_nil]
  | succ k ih =>
    intro h
    have := ih (by omega)
    have hl := numL_len (zs.getD k 0)
    by_cases hk : 0 < k
    · rw [numsB_next zs k hk (by omega), List.length_append, List.length_append, List.length_singleton]
      omega
    · obtain rfl : k = 0 := by omega
      rw [numsB_first zs (by omega)]
      have hl := numL_len (zs.getD 0 0)
      omega
theorem numsB_three (e : EdgeD) : numsB [e.1, e.2.1, e.2.2] = lineL e := by
  unfold numsB lineL
  rw [List.map_cons, List.map_cons, List.map_cons, List.map_nil, Lib.join_cons]
  simp [Lib.joinTail]
set_option maxRecDepth 100000 in
set_option maxHeartbeats 3200000 in
theorem words_impl (a : Option Addr) (n cap : Nat) (zs : List Int) (w : World) (h : Rd (encI .i64) 1 w a n cap zs) (hz : ∀ z ∈ zs, In64 z) (h0 : 0 < n) (hn : n ≤ 1000) (hp : Pow Tryd.prog w) :
    Calls Tryd.prog 23 #[.slice a n cap] w fun e w' => e = .returned (.string (mkB (numsB zs))) ∧ Below w.heap.size w w' := by
  obtain ⟨i0, hi, hz0, hz1, hz2⟩ := info_parts infoStr
  have hL := Lib.hid h.len
  have hle := h.le
  have hm := h.max
  have HLEN : Hid ((numsB zs).length ≤ 100000) := Lib.hid (by have := numsB_len zs zs.length (Nat.le_refl _); rw [List.take_length, h.len] at this; omega)
  unfold maxLen at hm
  go_enter Tryd.func23, Tryd.ntmps23
  go_wp2
  go_loopw [3, 8] (fun r i wr => ∃ (A : Option Addr) (C k : Nat), k ≤ n ∧ r = .slice A k C ∧ i = .int .i64 k ∧ OutRow w.heap.size w.heap.size 9 1 wr A k C ((((zs.take k).map numL).map mkB).map Value.string) ∧ Below w.heap.size w wr) (fun _ i _ => n - (intOf i).toNat)
  case atStart => exact ⟨none, 0, 0, Nat.zero_le _, rfl, rfl, OutRow.nil _ _ _ _ _, Below.refl _ _⟩
  case round =>
    obtain ⟨A, C, k, hk, rfl, rfl, ho, hb⟩ := hrel
    have HO := Lib.hid ho
    clear ho
    by_cases hlt : k < n
    · obtain ⟨b1, off1, rfl, hbl1, hc1⟩ := h.ints (by omega)
      have hcell : wr.cell? ⟨b1, off1 + k, none⟩ = some (.int .i64 (zs.getD k 0)) := (hb.cell (p := ⟨b1, off1 + k, none⟩) hbl1).trans (hc1 k hlt)
      have hkz : k < zs.length := by rw [hL.out]; exact hlt
      have hin : In64 (zs.getD k 0) := by
        have e : zs.getD k 0 = zs[k] := by simp [List.getD, hkz]
        rw [e]
        exact hz _ (List.getElem_mem hkz)
      have HT : Hid (((((zs.take (k + 1)).map numL).map mkB).map Value.string) = ((((zs.take k).map numL).map mkB).map Value.string) ++ [.string (mkB (numL (zs.getD k 0)))]) := Lib.hid (by rw [List.take_succ_eq_append_getElem hkz, List.map_append, List.map_cons, List.map_nil, str_snoc]; simp only [List.getD, List.getElem?_eq_getElem hkz, Option.getD_some])
      have hi1 : (k : Int) < (n : Int) := by omega
      have hpk := hp.later hb (Nat.le_refl _)
      clear hc1 h
      generalize zs.getD k 0 = z at *
      go_wp2_with fail
      refine (numText_impl z hin _ hpk).mono ?_
      rintro e w1 ⟨rfl, hb1⟩
      have hb2 := hb.trans (hb1.mono hb.size)
      go_wp2_with (at_builtin; refine app_out rfl _ _ 70 rfl w.heap.size w.heap.size 9 Tryd.underlying70 hi hz0 hz1 hz2 rfl (by decide) A k C ((((zs.take k).map numL).map mkB).map Value.string) rfl ((HO.out.below hb1).alloc _) ⟨w1.heap.size, 0, none⟩ 1 1 [.string (mkB (numL z))] rfl rfl (one_news _ _ _ _ rfl) (one_str _) (by decide) ?c4 ?c5 ?c6 ?c7 ?_)
      case c4 => unfold maxLen; omega
      case c5 => omega
      case c6 => exact Nat.le_refl _
      case c7 => have := hb2.size; simp; omega
      intro A2 C2 w4 ho2 hb4
      have HO2 : Hid (OutRow w.heap.size w.heap.size 9 1 w4 A2 (k + 1) C2 ((((zs.take (k + 1)).map numL).map mkB).map Value.string)) := Lib.hid (by rw [HT.out]; first | exact ho2 | (simp only [List.map_map, List.map_take] at ho2 ⊢; exact ho2))
      have hb5 := (hb2.alloc hb2.size (.cells #[.string (mkB (numL z))] 9)).trans hb4
      clear ho2 hb4
      go_wp2
      go_roundw
      case rel => exact ⟨A2, C2, k + 1, by omega, rfl, by go_num, HO2.out, hb5⟩
      case measure => simp [intOf]; omega
    · obtain rfl : k = n := by omega
      have e : zs.take k = zs := List.take_of_length_le (by rw [hL.out]; exact Nat.le_refl _)
      rw [e] at HO
      have hX : Hid (((zs.map numL).map mkB).length = k) := Lib.hid (by simp [hL.out])
      have hrd : Rd encS 1 wr A k C ((zs.map numL).map mkB) := (OwnS.of (by rw [flat_encS]; exact HO.out.1) hX.out (by omega) : OwnS encS 1 9 w.heap.size wr.heap.size wr A k C ((zs.map numL).map mkB)).rdS
      have hcap := hrd.le
      obtain ⟨b, off, rfl, hbl, hc⟩ := hrd.strs h0
      have hj : (((zs.map numL).map mkB).map (·.data.toList)) = zs.map numL := by
        rw [List.map_map]
        conv => rhs; rw [← List.map_id (zs.map numL)]
        exact List.map_congr_left fun x _ => mkB_data x
      have cj := Tryd.strings_Join b off C ((zs.map numL).map mkB) ⟨#[32]⟩ wr (fun j x hx => by
          have hjl : j < ((zs.map numL).map mkB).length := by
            rcases Nat.lt_or_ge j ((zs.map numL).map mkB).length with q | q
            · exact q
            · rw [List.getElem?_eq_none q] at hx; cases hx
          rw [hc j (by rw [← hX.out]; exact hjl), atS_eq _ _ hjl]
          rw [List.getElem?_eq_getElem hjl] at hx
          rw [Option.some.inj hx]) hbl (by rw [hX.out]; omega) (by rw [hX.out]; exact hcap) (by rw [hj]; exact Nat.le_trans HLEN.out (by omega))
      rw [hj, hX.out] at cj
      clear hc hrd hj HO e h
      go_wp2_with fail
      refine cj.mono ?_
      rintro e w1 ⟨rfl, hb1⟩
      have hb2 := hb.trans (hb1.mono hb.size)
      go_wp2
      go_ret
      exact ⟨rfl, hb2⟩
set_option maxRecDepth 100000 in
set_option maxHeartbeats 3200000 in
theorem line_spec (a : Option Addr) (n cap : Nat) (zs : List Int) (w : World) (h : Rd (encI .i64) 1 w a n cap zs) (hz : ∀ z ∈ zs, In64 z) (hn : n ≤ 1000) :
    Calls Tryd.prog 26 #[.slice a n cap] w fun e w' => e = .returned (.string (mkB (numsB zs))) ∧ Below w.heap.size w w' := by
  have hL := Lib.hid h.len
  have hle := h.le
  have hm := h.max
  unfold maxLen at hm
  go_enter Tryd.func26, Tryd.ntmps26
  go_wp2
  go_loopw [3, 8] (fun r i wr => ∃ k : Nat, k ≤ n ∧ r = .string (mkB (numsB (zs.take k))) ∧ i = .int .i64 k ∧ Below w.heap.size w wr) (fun _ i _ => n - (intOf i).toNat)
  case atStart => exact ⟨0, Nat.zero_le _, rfl, rfl, Below.refl _ _⟩
  case round =>
    obtain ⟨k, hk, rfl, rfl, hb⟩ := hrel
    by_cases hlt : k < n
    · obtain ⟨b1, off1, rfl, hbl1, hc1⟩ := h.ints (by omega)
      have hcell : wr.cell? ⟨b1, off1 + k, none⟩ = some (.int .i64 (zs.getD k 0)) := (hb.cell (p := ⟨b1, off1 + k, none⟩) hbl1).trans (hc1 k hlt)
      have hkz : k < zs.length := by rw [hL.out]; exact hlt
      have hin : In64 (zs.getD k 0) := by
        have e : zs.getD k 0 = zs[k] := by simp [List.getD, hkz]
        rw [e]
        exact hz _ (List.getElem_mem hkz)
      have hlen := numsB_len zs k (by omega)
      have hlz := numL_len (zs.getD k 0)
      have hi1 : (k : Int) < (n : Int) := by omega
      by_cases hk0 : 0 < k
      · have HT := Lib.hid (numsB_next zs k hk0 hkz)
        have hi2 : (0 : Int) < (k : Int) := by omega
        clear hc1 h
        generalize zs.getD k 0 = z at *
        generalize numsB (zs.take k) = X at *
        have s1 : ¬ 9223372036854775807 < (mkB X).size + 1 := sum_1mk (by omega)
        have s2 : ¬ 9223372036854775807 < (mkB (X ++ [32])).size + (mkB (numL z)).size := sum_mk (by rw [List.length_append, List.length_singleton]; omega)
        have e1 := mk_lit 32 X
        go_wp2_with fail
        refine (numText_spec z.toNat z (Nat.le_refl _) hin _).mono ?_
        rintro e w1 ⟨rfl, hb1⟩
        have hb2 := hb.trans (hb1.mono hb.size)
        go_wp2
        go_roundw
        case rel => exact ⟨k + 1, by omega, by simp only [HT.out, mkB_app], by go_num, hb2⟩
        case measure => simp [intOf]; omega
      · obtain rfl : k = 0 := by omega
        have HT := Lib.hid (numsB_first zs hkz)
        clear hc1 h
        generalize zs.getD 0 0 = z at *
        have s2 : ¬ 9223372036854775807 < (mkB (numsB (zs.take 0))).size + (mkB (numL z)).size := sum_mk (by omega)
        have hX : Hid (numsB (zs.take 0) = []) := Lib.hid rfl
        simp only [Nat.add_zero] at hcell
        go_wp2_with fail
        refine (numText_spec z.toNat z (Nat.le_refl _) hin _).mono ?_
        rintro e w1 ⟨rfl, hb1⟩
        have hb2 := hb.trans (hb1.mono hb.size)
        go_wp2
        go_roundw
        case rel => exact ⟨1, by omega, by rw [HT.out, mkB_app]; rfl, by go_num, hb2⟩
        case measure => simp [intOf]; omega
    · obtain rfl : k = n := by omega
      have e : zs.take k = zs := List.take_of_length_le (by rw [hL.out]; exact Nat.le_refl _)
      rw [e]
      go_wp2
      go_ret
      exact ⟨rfl, hb⟩
end Go.Proofs.YthffmjeodoinlaaDoor

/- GraphText of the program and of the reference. -/
namespace Go.Proofs.YthffmjeodoinlaaDoor
open Go.RowKit
def eD (e : EdgeR) : EdgeD := (e.fr, e.to, e.wt)
/-- What GraphText says. -/
def graphTextD (n : Int) (xs : List EdgeR) : List UInt8 := if graphB n xs = true then graphL n (xs.map eD) else []
theorem rd_lit3 (w : World) (x y z : Int) (e : TypeId) : Rd (encI .i64) 1 (w.alloc (.cells #[.int .i64 x, .int .i64 y, .int .i64 z] e)) (some ⟨w.heap.size, 0, none⟩) 3 3 [x, y, z] :=
  Rd.of_ints (World.ownsRow_lit (base := w.heap.size) (size := 1) (e := e) w #[.int .i64 x, .int .i64 y, .int .i64 z] 3 (Nat.le_refl _) (by unfold maxLen; omega) rfl) rfl
theorem edgesL_take (xs : List EdgeR) (k : Nat) (h : k < xs.length) : edgesL ((xs.take (k + 1)).map eD) = edgesL ((xs.take k).map eD) ++ (lineL (eD xs[k]) ++ [10]) := by
  rw [List.take_succ_eq_append_getElem h, List.map_append, List.map_cons, List.map_nil, edgesL_snoc]
theorem graphL_take (n : Int) (xs : List EdgeR) (k : Nat) (h : k < xs.length) : graphL n ((xs.take (k + 1)).map eD) = graphL n ((xs.take k).map eD) ++ (lineL (eD xs[k]) ++ [10]) := by
  unfold graphL
  rw [edgesL_take xs k h]
  simp
set_option maxRecDepth 100000 in
set_option maxHeartbeats 3200000 in
theorem graphText_impl (n : Int) (a : Option Addr) (m cap : Nat) (xs : List EdgeR) (w : World) (h : Rd encEdge 3 w a m cap xs) (hn : In64 n) (hx : ∀ x ∈ xs, In64 x.fr ∧ In64 x.to ∧ In64 x.wt) (hp : Pow Tryd.prog w) :
    Calls Tryd.prog 9 #[.agg #[.int .i64 n, .slice a m cap]] w fun e w' => e = .returned (.string (mkB (graphTextD n xs))) ∧ Below w.heap.size w w' := by
  have hL := Lib.hid h.len
  have hm := h.max
  have hle := h.le
  unfold maxLen at hm
  have hb0 := (Below.refl w.heap.size w).alloc (Nat.le_refl _) (.cells #[.int .i64 n, .slice a m cap] 25)
  cases hG : graphB n xs with
  | false =>
    have HT := Lib.hid (show graphTextD n xs = [] by unfold graphTextD; rw [hG]; rfl)
    have HG := Lib.hid hG
    clear hG
    go_enter Tryd.func9, Tryd.ntmps9
    go_wp2_with fail
    refine (graphOk_impl n a m cap xs _ (h.below hb0 (Nat.le_refl _))).mono ?_
    rintro e w1 ⟨rfl, hb1⟩
    rw [HG.out]
    have BB := hb0.trans (hb1.mono (by simp))
    go_wp2
    go_ret
    exact ⟨by rw [HT.out]; rfl, BB⟩
  | true =>
    have HT := Lib.hid (show graphTextD n xs = graphL n (xs.map eD) by unfold graphTextD; rw [hG]; rfl)
    have HG := Lib.hid hG
    have hm4 : m ≤ 400 := by
      unfold graphB at hG
      simp only [Bool.and_eq_true, decide_eq_true_eq] at hG
      rw [← hL.out]
      omega
    clear hG
    have hln := numL_len n
    have s1 : ¬ 9223372036854775807 < (mkB (numL n)).size + 1 := sum_1mk (by omega)
    go_enter Tryd.func9, Tryd.ntmps9
    go_wp2_with fail
    refine (graphOk_impl n a m cap xs _ (h.below hb0 (Nat.le_refl _))).mono ?_
    rintro e w1 ⟨rfl, hb1⟩
    rw [HG.out]
    have B1 := hb0.trans (hb1.mono (by simp))
    have g0 : w1.cell? ⟨w.heap.size, 0, none⟩ = some (.int .i64 n) := by rw [hb1.cell (by simp)]; simp [go_sem]
    have g1 : w1.cell? ⟨w.heap.size, 1, none⟩ = some (.slice a m cap) := by rw [hb1.cell (by simp)]; simp [go_sem]
    go_wp2_with fail
    refine (numText_impl n hn _ (hp.later B1 (Nat.le_refl _))).mono ?_
    rintro e w2 ⟨rfl, hb2⟩
    have B2 := B1.trans (hb2.mono B1.size)
    have hlt1 : w.heap.size < w1.heap.size := by have := hb1.size; simp at this; omega
    have g2 : w2.cell? ⟨w.heap.size, 1, none⟩ = some (.slice a m cap) := by rw [hb2.cell (p := ⟨w.heap.size, 1, none⟩) hlt1]; exact g1
    clear g0 g1
    go_wp2
    go_loopw [3, 16] (fun r i wr => ∃ k : Nat, k ≤ m ∧ r = .string (mkB (graphL n ((xs.take k).map eD))) ∧ i = .int .i64 k ∧ Below w.heap.size w wr) (fun _ i _ => m - (intOf i).toNat)
    case atStart => exact ⟨0, Nat.zero_le _, by rw [mk_lit]; simp [graphL, edgesL], rfl, B2⟩
    case round =>
      obtain ⟨k, hk, rfl, rfl, hb⟩ := hrel
      by_cases hlt : k < m
      · obtain ⟨b1, off1, rfl, hbl1, hc1⟩ := h.edges (by omega)
        have cb : ∀ o, wr.cell? ⟨b1, o, none⟩ = w.cell? ⟨b1, o, none⟩ := fun o => hb.cell (p := ⟨b1, o, none⟩) hbl1
        obtain ⟨k0, k1, k2⟩ := hc1 k hlt
        rw [← cb] at k0 k1 k2
        have hi1 : (k : Int) < (m : Int) := by omega
        have hkx : k < xs.length := by rw [hL.out]; exact hlt
        have HS := Lib.hid (graphL_take n xs k hkx)
        have hin := hx _ (List.getElem_mem hkx)
        have hlen := graphL_len n ((xs.take k).map eD)
        rw [List.length_map, List.length_take] at hlen
        have hlen2 : (graphL n ((xs.take k).map eD)).length ≤ 20000 := by omega
        have hle := lineL_len (eD xs[k])
        have hat : edgeAt xs k = xs[k] := by simp [edgeAt, List.getD, hkx]
        rw [hat] at k0 k1 k2
        generalize xs[k] = x at *
        generalize graphL n ((xs.take k).map eD) = X at *
        have hrd := rd_lit3 (wr.alloc (.cells #[.int .i64 x.fr, .int .i64 x.to, .int .i64 x.wt] 52)) x.fr x.to x.wt 3
        have ha1 := (Below.refl wr.heap.size wr).alloc (Nat.le_refl _) (.cells #[.int .i64 x.fr, .int .i64 x.to, .int .i64 x.wt] 52)
        have ha2 := ha1.alloc ha1.size (.cells #[.int .i64 x.fr, .int .i64 x.to, .int .i64 x.wt] 3)
        have hpa := hp.later (hb.trans (ha2.mono hb.size)) (Nat.le_refl _)
        have cw := words_impl _ 3 3 _ _ hrd (by intro z hz; simp at hz; rcases hz with rfl | rfl | rfl; exact hin.1; exact hin.2.1; exact hin.2.2) (by omega) (by omega) hpa
        have hB3 : Hid (numsB [x.fr, x.to, x.wt] = lineL (eD x)) := Lib.hid (numsB_three (eD x))
        rw [hB3.out] at cw
        have s3 : ¬ 9223372036854775807 < (mkB (lineL (eD x))).size + 1 := sum_1mk (by omega)
        have s4 : ¬ 9223372036854775807 < (mkB X).size + (mkB (lineL (eD x) ++ [10])).size := sum_mk (by rw [List.length_append, List.length_singleton]; omega)
        have e1 := mk_lit 10 (lineL (eD x))
        simp only [World.size_alloc] at cw
        clear hc1 h cb hrd hin hat
        go_wp2_with fail
        refine cw.mono ?_
        rintro e w5 ⟨rfl, hb5⟩
        have hb6 := hb.trans ((ha2.trans (hb5.mono (by omega))).mono hb.size)
        go_wp2
        go_roundw
        case rel => exact ⟨k + 1, by omega, by simp only [HS.out, mkB_app], by go_num, hb6⟩
        case measure => simp [intOf]; omega
      · obtain rfl : k = m := by omega
        have e : xs.take k = xs := List.take_of_length_le (by rw [hL.out]; exact Nat.le_refl _)
        rw [e]
        go_wp2
        go_ret
        exact ⟨by rw [HT.out]; rfl, hb⟩
set_option maxRecDepth 100000 in
set_option maxHeartbeats 3200000 in
theorem graphText_spec (n : Int) (a : Option Addr) (m cap : Nat) (xs : List EdgeR) (w : World) (h : Rd encEdge 3 w a m cap xs) (hn : In64 n) (hx : ∀ x ∈ xs, In64 x.fr ∧ In64 x.to ∧ In64 x.wt) :
    Calls Tryd.prog 10 #[.agg #[.int .i64 n, .slice a m cap]] w fun e w' => e = .returned (.string (mkB (graphTextD n xs))) ∧ Below w.heap.size w w' := by
  have hL := Lib.hid h.len
  have hm := h.max
  have hle := h.le
  unfold maxLen at hm
  have hb0 := (Below.refl w.heap.size w).alloc (Nat.le_refl _) (.cells #[.int .i64 n, .slice a m cap] 25)
  cases hG : graphB n xs with
  | false =>
    have HT := Lib.hid (show graphTextD n xs = [] by unfold graphTextD; rw [hG]; rfl)
    have HG := Lib.hid hG
    clear hG
    go_enter Tryd.func10, Tryd.ntmps10
    go_wp2_with fail
    refine (graphOk_spec n a m cap xs _ (h.below hb0 (Nat.le_refl _))).mono ?_
    rintro e w1 ⟨rfl, hb1⟩
    rw [HG.out]
    have BB := hb0.trans (hb1.mono (by simp))
    go_wp2
    go_ret
    exact ⟨by rw [HT.out]; rfl, BB⟩
  | true =>
    have HT := Lib.hid (show graphTextD n xs = graphL n (xs.map eD) by unfold graphTextD; rw [hG]; rfl)
    have HG := Lib.hid hG
    have hm4 : m ≤ 400 := by
      unfold graphB at hG
      simp only [Bool.and_eq_true, decide_eq_true_eq] at hG
      rw [← hL.out]
      omega
    clear hG
    have hln := numL_len n
    have s1 : ¬ 9223372036854775807 < (mkB (numL n)).size + 1 := sum_1mk (by omega)
    go_enter Tryd.func10, Tryd.ntmps10
    go_wp2_with fail
    refine (graphOk_spec n a m cap xs _ (h.below hb0 (Nat.le_refl _))).mono ?_
    rintro e w1 ⟨rfl, hb1⟩
    rw [HG.out]
    have B1 := hb0.trans (hb1.mono (by simp))
    have g0 : w1.cell? ⟨w.heap.size, 0, none⟩ = some (.int .i64 n) := by rw [hb1.cell (by simp)]; simp [go_sem]
    have g1 : w1.cell? ⟨w.heap.size, 1, none⟩ = some (.slice a m cap) := by rw [hb1.cell (by simp)]; simp [go_sem]
    go_wp2_with fail
    refine (numText_spec n.toNat n (Nat.le_refl _) hn _).mono ?_
    rintro e w2 ⟨rfl, hb2⟩
    have B2 := B1.trans (hb2.mono B1.size)
    have hlt1 : w.heap.size < w1.heap.size := by have := hb1.size; simp at this; omega
    have g2 : w2.cell? ⟨w.heap.size, 1, none⟩ = some (.slice a m cap) := by rw [hb2.cell (p := ⟨w.heap.size, 1, none⟩) hlt1]; exact g1
    clear g0 g1
    go_wp2
    go_loopw [3, 16] (fun r i wr => ∃ k : Nat, k ≤ m ∧ r = .string (mkB (graphL n ((xs.take k).map eD))) ∧ i = .int .i64 k ∧ Below w.heap.size w wr) (fun _ i _ => m - (intOf i).toNat)
    case atStart => exact ⟨0, Nat.zero_le _, by rw [mk_lit]; simp [graphL, edgesL], rfl, B2⟩
    case round =>
      obtain ⟨k, hk, rfl, rfl, hb⟩ := hrel
      by_cases hlt : k < m
      · obtain ⟨b1, off1, rfl, hbl1, hc1⟩ := h.edges (by omega)
        have cb : ∀ o, wr.cell? ⟨b1, o, none⟩ = w.cell? ⟨b1, o, none⟩ := fun o => hb.cell (p := ⟨b1, o, none⟩) hbl1
        obtain ⟨k0, k1, k2⟩ := hc1 k hlt
        rw [← cb] at k0 k1 k2
        have hi1 : (k : Int) < (m : Int) := by omega
        have hkx : k < xs.length := by rw [hL.out]; exact hlt
        have HS := Lib.hid (graphL_take n xs k hkx)
        have hin := hx _ (List.getElem_mem hkx)
        have hlen := graphL_len n ((xs.take k).map eD)
        rw [List.length_map, List.length_take] at hlen
        have hlen2 : (graphL n ((xs.take k).map eD)).length ≤ 20000 := by omega
        have hle := lineL_len (eD xs[k])
        have hat : edgeAt xs k = xs[k] := by simp [edgeAt, List.getD, hkx]
        rw [hat] at k0 k1 k2
        generalize xs[k] = x at *
        generalize graphL n ((xs.take k).map eD) = X at *
        have hrd := rd_lit3 (wr.alloc (.cells #[.int .i64 x.fr, .int .i64 x.to, .int .i64 x.wt] 52)) x.fr x.to x.wt 3
        have ha1 := (Below.refl wr.heap.size wr).alloc (Nat.le_refl _) (.cells #[.int .i64 x.fr, .int .i64 x.to, .int .i64 x.wt] 52)
        have ha2 := ha1.alloc ha1.size (.cells #[.int .i64 x.fr, .int .i64 x.to, .int .i64 x.wt] 3)
        have cw := line_spec _ 3 3 _ _ hrd (by intro z hz; simp at hz; rcases hz with rfl | rfl | rfl; exact hin.1; exact hin.2.1; exact hin.2.2) (by omega)
        have hB3 : Hid (numsB [x.fr, x.to, x.wt] = lineL (eD x)) := Lib.hid (numsB_three (eD x))
        rw [hB3.out] at cw
        have s3 : ¬ 9223372036854775807 < (mkB X).size + (mkB (lineL (eD x))).size := sum_mk (by omega)
        have e1 := mkB_app X (lineL (eD x))
        have s4 : ¬ 9223372036854775807 < (mkB (X ++ lineL (eD x))).size + 1 := sum_1mk (by rw [List.length_append]; omega)
        have e2 := mk_lit 10 (X ++ lineL (eD x))
        simp only [World.size_alloc] at cw
        clear hc1 h cb hrd hin hat
        go_wp2_with fail
        refine cw.mono ?_
        rintro e w5 ⟨rfl, hb5⟩
        have hb6 := hb.trans ((ha2.trans (hb5.mono (by omega))).mono hb.size)
        go_wp2
        go_roundw
        case rel => exact ⟨k + 1, by omega, by simp only [HS.out], by go_num, hb6⟩
        case measure => simp [intOf]; omega
      · obtain rfl : k = m := by omega
        have e : xs.take k = xs := List.take_of_length_le (by rw [hL.out]; exact Nat.le_refl _)
        rw [e]
        go_wp2
        go_ret
        exact ⟨by rw [HT.out]; rfl, hb⟩
end Go.Proofs.YthffmjeodoinlaaDoor

/- FnShards: the walk of the law. -/
namespace Go.Proofs.YthffmjeodoinlaaDoor
open Go.RowKit
theorem mg_graphS {n : Int} {xs : List EdgeR} (h1 : 1 ≤ n) (h8 : n ≤ 8) (hl : xs.length ≤ 13) (h : ∀ e ∈ xs, mgE n e) : graphB n xs = true := by
  unfold graphB
  simp only [Bool.and_eq_true, decide_eq_true_eq, List.all_eq_true]
  refine ⟨⟨⟨by omega, by omega⟩, by omega⟩, fun e he => ?_⟩
  obtain ⟨⟨a1, a2⟩, ⟨b1, b2⟩, c1, c2⟩ := h e he
  unfold edgeB
  simp only [Bool.and_eq_true, decide_eq_true_eq]
  omega
theorem cut_ends {n : Int} {xs : List EdgeR} {b : Int} (hg : graphB n xs = true) (h1 : 1 ≤ n) (b1 : 1 ≤ b) (b2 : b ≤ 400) : endsB n (cutG n xs b) = true := by
  obtain ⟨m, rfl⟩ := Int.eq_ofNat_of_zero_le (show 0 ≤ n by omega)
  obtain ⟨g1, g2, _, _⟩ := graphB_yes hg
  rw [cutG_yes hg b1 b2]
  have h := cutL_ends b (l := tally m (degI EdgeR.to xs)) (by rw [tally_len]; omega) (by rw [tally_len]; omega)
  rw [tally_len] at h
  exact h
theorem cntTo_le (xs : List EdgeR) (lo v : Int) : cntTo xs lo v ≤ xs.length := List.length_filter_le _ _
/-- What the law's last loops lean on: shard k of the row, and its counts. -/
structure ShFact (gn : Int) (gl : List EdgeR) (es : List Int) (zs : List Int) (k : Nat) (x : ShardR) (lo hi : Nat) : Prop where
  l : x.lo = (lo : Int)
  h : x.hi = (hi : Int)
  le : lo ≤ hi
  top : (hi : Int) ≤ gn
  iv : ∀ v : Nat, lo ≤ v → v < hi → ivI es (v : Int) = (k : Int)
  ok : shardB x.lo x.hi x.edges = true
  cnt : x.edges.length = cntTo gl (lo : Int) (hi : Int)
  next : ∀ v : Nat, lo ≤ v → v < hi → (cntTo gl (lo : Int) ((v + 1 : Nat) : Int) : Int) = (cntTo gl (lo : Int) (v : Int) : Int) + zs[v]?.getD 0
theorem shFact {gn : Int} {gl : List EdgeR} {es : List Int} {size : Int} (hg : graphB gn gl = true) (he : endsB gn es = true) (hs : 1 ≤ size) {r : Row ShardR} (hd : datShardS r = dealtTo es gl (sortedOf es gl size) es.length) {k : Nat} (hk : k < es.length) :
    ∃ lo hi, ShFact gn gl es (degG EdgeR.to gn gl) k (atShard r.l k) lo hi := by
  obtain ⟨f1, f2, f3, f4⟩ := span_facts he hk
  obtain ⟨g1, g2, g3, g4⟩ := graphB_yes hg
  obtain ⟨lo, elo⟩ := Int.eq_ofNat_of_zero_le f1
  obtain ⟨hi, ehi⟩ := Int.eq_ofNat_of_zero_le (show 0 ≤ (spanI es (k : Int)).2 by omega)
  have hl : r.l.length = es.length := by
    have := congrArg List.length hd
    unfold datShardS at this
    rw [List.length_map, len_dealtTo] at this
    exact this
  have hx : k < r.l.length := by omega
  have e1 : datShard r.l[k] = shardOf es gl (sortedOf es gl size) k := by
    have h1 : (datShardS r)[k]? = some (datShard r.l[k]) := by unfold datShardS; rw [List.getElem?_map, List.getElem?_eq_getElem hx]; rfl
    rw [hd] at h1
    obtain ⟨h2, h3⟩ := List.getElem?_eq_some_iff.1 h1
    rw [dealtTo_get] at h3
    exact h3.symm
  rw [← atShard_eq r.l k hx] at e1
  have a1 : (atShard r.l k).lo = (spanI es (k : Int)).1 := congrArg (fun t => t.1) e1
  have a2 : (atShard r.l k).hi = (spanI es (k : Int)).2 := congrArg (fun t => t.2.1) e1
  have a3 : (atShard r.l k).edges = innerOf gl k (sortedOf es gl size) := congrArg (fun t => t.2.2) e1
  have hto : ∀ e ∈ gl, 0 ≤ e.to := by
    intro e hm
    obtain ⟨i, hi2, rfl⟩ := List.getElem_of_mem hm
    have := edgeB_yes (g4 i hi2)
    rw [edgeAt_eq gl i hi2] at this
    omega
  refine ⟨lo, hi, ⟨by rw [a1, elo], by rw [a2, ehi], by omega, by omega, fun v h1 h2 => f4 v (by omega) (by omega), ?_, ?_, fun v h1 h2 => ?_⟩⟩
  · rw [a1, a2, a3]; exact shard_ok hg he hs hk
  · rw [a3, inner_cnt hg he hs hk, elo, ehi]
  · obtain ⟨m, rfl⟩ := Int.eq_ofNat_of_zero_le g1
    rw [degG_yes hg, ← List.getD_eq_getElem?_getD]
    exact cntTo_next m lo v h1 (by omega) gl hto
set_option maxRecDepth 100000 in
set_option maxHeartbeats 12800000 in
theorem walk_FnShards (a : Option Addr) (n c : Nat) (z : List Int) (w : World) (r0 : Rd (encI .u8) 1 w a n c z) (hp : Pow Tryd.prog w) :
    Calls Tryd.prog 3 #[.slice a n c] w fun e w' => e = .returned (.bool true) ∧ Below w.heap.size w w' := by
  have hle := r0.le
  have hmx := r0.max
  unfold maxLen at hmx
  by_cases hn : n ≤ 1048576
  · have hni : (n : Int) ≤ 1048576 := by omega
    go_enter Tryd.func3, Tryd.ntmps3
    go_wp2_with fail
    refine (makeGraph_any a n c z _ r0 hn).mono ?_
    rintro e w1 ⟨⟨gn, gA, gN, gC, gl⟩, rfl, ho, ⟨h1, h8⟩, h13, hall, hb1⟩
    simp only at h1 h8 h13 hall
    have HGL : Hid (gl.length = gN) := Lib.hid ho.row.len
    have HGB := Lib.hid (mg_graphS h1 h8 (by rw [HGL.out]; exact h13) hall)
    have HX64 := Lib.hid (show ∀ x ∈ gl, In64 x.fr ∧ In64 x.to ∧ In64 x.wt from fun x hx => by
      obtain ⟨⟨a1, a2⟩, ⟨b1, b2⟩, c1, c2⟩ := hall x hx
      unfold In64
      omega)
    have ha1 := (Below.refl w1.heap.size w1).alloc (Nat.le_refl _) (.cells #[.int .i64 gn, .slice gA gN gC] 25)
    have BP1 := hb1.trans (ha1.mono hb1.size)
    have X0 : (w1.alloc (.cells #[.int .i64 gn, .slice gA gN gC] 25)).cell? ⟨w1.heap.size, 0, none⟩ = some (.int .i64 gn) := by simp [go_sem]
    have X1 : (w1.alloc (.cells #[.int .i64 gn, .slice gA gN gC] 25)).cell? ⟨w1.heap.size, 1, none⟩ = some (.slice gA gN gC) := by simp [go_sem]
    have ho1 := ho.below ha1
    clear hall ho hb1
    go_wp2_with fail
    generalize w1.alloc (.cells #[.int .i64 gn, .slice gA gN gC] 25) = W1 at *
    generalize w1.heap.size = G at *
    have HR0 := Lib.hid (r0.below BP1 (Nat.le_refl _))
    have HRG := Lib.hid (ho1.row.rd lenEdge)
    go_region_held3 (fun w' => w'.cell? ⟨G, 0, none⟩ = some (.int .i64 gn) ∧ w'.cell? ⟨G, 1, none⟩ = some (.slice gA gN gC) ∧ Below W1.heap.size W1 w')
      (first | exact keepd2 (by assumption) | exact keep2 (by assumption) (Nat.le_refl _) (by assumption) | exact ⟨X0, X1, (Below.refl _ _).drew⟩)
      (first
        | (go_at_call 6; refine (makeNum_any a n c z 6 _ (HR0.out.below (tail2 (by assumption) : Below W1.heap.size W1 _) (Nat.le_refl _)) (by omega) hn).mono ?_; rintro e w2 ⟨x6, rfl, q0, _, q6, hb2⟩; have q6' := q6 (by omega); have hwr6 : IntKind.i64.wrap (1 + x6) = 1 + x6 := IntWalk.i64_in _ (by omega))
        | (go_at_call 5; refine (cut_impl gn gA gN gC gl _ _ (HRG.out.below (tail2 (by assumption) : Below W1.heap.size W1 _) (Nat.le_refl _)) (by unfold In64; omega)).mono ?_; rintro e w3 ⟨eA, eN, eC, rfl, oe, hb3⟩))
    obtain ⟨X2, X3, hB3⟩ : w3.cell? ⟨G, 0, none⟩ = some (.int .i64 gn) ∧ w3.cell? ⟨G, 1, none⟩ = some (.slice gA gN gC) ∧ Below W1.heap.size W1 w3 := by assumption
    have BP3 := BP1.trans (hB3.mono BP1.size)
    have ho3 := ho1.below hB3
    have HEB := Lib.hid (cut_ends (b := 1 + x6) HGB.out h1 (by omega) (by omega))
    have HEL := Lib.hid oe.len
    generalize cutG gn gl (1 + x6) = es at *
    have heN : eN ≤ 150 := by rw [← HEL.out]; exact ends_len HEB.out
    have HRE := Lib.hid oe.rd
    have HRG3 := Lib.hid (ho3.row.rd lenEdge)
    have HR3 := Lib.hid (r0.below BP3 (Nat.le_refl _))
    clear X0 X1 hb2 hb3 hB3 HR0 HRG oe
    go_wp2_with fail
    go_region_held3 (fun w' => w'.cell? ⟨G, 0, none⟩ = some (.int .i64 gn) ∧ w'.cell? ⟨G, 1, none⟩ = some (.slice gA gN gC) ∧ Below w3.heap.size w3 w')
      (first | exact keepd2 (by assumption) | exact keep2 (by assumption) (Nat.le_refl _) (by assumption) | exact ⟨X2, X3, (Below.refl _ _).drew⟩)
      (first
        | (go_at_call 6; refine (makeNum_any a n c z 4 _ (HR3.out.below (tail2 (by assumption) : Below w3.heap.size w3 _) (Nat.le_refl _)) (by omega) hn).mono ?_; rintro e w4 ⟨x4, rfl, p0, _, p4, hb4⟩; have p4' := p4 (by omega); have hwr4 : IntKind.i64.wrap (1 + x4) = 1 + x4 := IntWalk.i64_in _ (by omega))
        | (go_at_call 7; refine (shards_impl gn gA gN gC gl eA eN eC es _ _ (HRG3.out.below (tail2 (by assumption) : Below w3.heap.size w3 _) (Nat.le_refl _)) (HRE.out.below (tail2 (by assumption) : Below w3.heap.size w3 _) (Nat.le_refl _)) (by omega) (by unfold In64; omega)).mono ?_; rintro e w5 ⟨r, rfl, hdr, os, kr, hb5⟩))
    obtain ⟨X4, X5, hB5⟩ : w5.cell? ⟨G, 0, none⟩ = some (.int .i64 gn) ∧ w5.cell? ⟨G, 1, none⟩ = some (.slice gA gN gC) ∧ Below w3.heap.size w3 w5 := by assumption
    have BP5 := BP3.trans (hB5.mono BP3.size)
    have ho5 := ho3.below hB5
    have HRE5 := Lib.hid (HRE.out.below hB5 (Nat.le_refl _))
    rw [shardsF_yes HGB.out HEB.out (by omega)] at hdr
    have HDR := Lib.hid hdr
    have HSF := Lib.hid (fun (k : Nat) (hk : k < es.length) => shFact HGB.out HEB.out (by omega) hdr hk)
    have hrn : r.n = eN := by
      have h2 := congrArg List.length hdr
      unfold datShardS at h2
      rw [List.length_map, len_dealtTo, HEL.out] at h2
      rw [← h2]
      exact os.nest.row.len.symm
    obtain ⟨rA, rN, rC, rL⟩ := r
    have hrn2 : eN = rN := hrn.symm
    clear hrn
    subst hrn2
    clear X2 X3 hb4 hb5 hB5 HR3 HRG3 HRE ho3 hdr
    go_wp2_with fail
    refine (joined_impl_k gn ⟨rA, eN, rC, rL⟩ _ HDR.out _ os.rd (by unfold In64; omega) kr).mono ?_
    rw [joined_ok HGB.out HEB.out (by omega)]
    rintro e w6 ⟨⟨yn, yA, yN, yC, yl⟩, rfl, hdy, oy, ky, hb6⟩
    unfold datGraph at hdy
    simp only [Prod.mk.injEq] at hdy
    have e1 : gn = yn := hdy.1.symm
    subst e1
    have e2 : gl = yl := hdy.2.symm
    subst e2
    have BP6 := BP5.trans (hb6.mono BP5.size)
    have ho6 := ho5.below hb6
    have os6 := os.below hb6
    have HRE6 := Lib.hid (HRE5.out.below hb6 (Nat.le_refl _))
    have X6 := cell_later hb6 X4
    have X7 := cell_later hb6 X5
    have ha7 := (Below.refl w6.heap.size w6).alloc (Nat.le_refl _) (.cells #[.int .i64 gn, .slice yA yN yC] 25)
    have BP7 := BP6.trans (ha7.mono BP6.size)
    have ho7 := ho6.below ha7
    have os7 := os6.below ha7
    have HRY7 := Lib.hid ((oy.below ha7).row.rd lenEdge)
    have HRE7 := Lib.hid (HRE6.out.below ha7 (Nat.le_refl _))
    have X8 := cell_later ha7 X6
    have X9 := cell_later ha7 X7
    have Y8 : (w6.alloc (.cells #[.int .i64 gn, .slice yA yN yC] 25)).cell? ⟨w6.heap.size, 0, none⟩ = some (.int .i64 gn) := by simp [go_sem]
    have Y9 : (w6.alloc (.cells #[.int .i64 gn, .slice yA yN yC] 25)).cell? ⟨w6.heap.size, 1, none⟩ = some (.slice yA yN yC) := by simp [go_sem]
    clear X4 X5 X6 X7 hb6 ho5 ho6 os os6 oy HRE5 HRE6 hdy ky kr
    go_wp2_with fail
    generalize w6.alloc (.cells #[.int .i64 gn, .slice yA yN yC] 25) = W7 at *
    generalize w6.heap.size = H at *
    have HRG7 := Lib.hid (ho7.row.rd lenEdge)
    have hse := bs_eq (mkB (graphTextD gn gl)) (mkB (graphTextD gn gl))
    rw [decide_eq_true rfl] at hse
    go_region_held3 (fun w' => w'.cell? ⟨H, 0, none⟩ = some (.int .i64 gn) ∧ w'.cell? ⟨H, 1, none⟩ = some (.slice yA yN yC) ∧ w'.cell? ⟨G, 0, none⟩ = some (.int .i64 gn) ∧ w'.cell? ⟨G, 1, none⟩ = some (.slice gA gN gC) ∧ Below W7.heap.size W7 w')
      (first | exact keepd4 (by assumption) | exact keep4 (by assumption) (Nat.le_refl _) (by assumption) | exact ⟨Y8, Y9, X8, X9, (Below.refl _ _).drew⟩)
      (first
        | (go_at_call 9; refine (graphText_impl gn yA yN yC gl _ (HRY7.out.below (tail4 (by assumption) : Below W7.heap.size W7 _) (Nat.le_refl _)) (by unfold In64; omega) HX64.out (hp.later (BP7.trans ((tail4 (by assumption) : Below W7.heap.size W7 _).mono BP7.size)) (Nat.le_refl _))).mono ?_; rintro e wa ⟨rfl, hba⟩)
        | (go_at_call 10; refine (graphText_spec gn gA gN gC gl _ (HRG7.out.below (tail4 (by assumption) : Below W7.heap.size W7 _) (Nat.le_refl _)) (by unfold In64; omega) HX64.out).mono ?_; rintro e wb ⟨rfl, hbb⟩))
    obtain ⟨_, _, Z0, Z1, hBB⟩ : wb.cell? ⟨H, 0, none⟩ = some (.int .i64 gn) ∧ wb.cell? ⟨H, 1, none⟩ = some (.slice yA yN yC) ∧ wb.cell? ⟨G, 0, none⟩ = some (.int .i64 gn) ∧ wb.cell? ⟨G, 1, none⟩ = some (.slice gA gN gC) ∧ Below W7.heap.size W7 wb := by assumption
    have BP8 := BP7.trans (hBB.mono BP7.size)
    have HRG8 := Lib.hid ((ho7.below hBB).row.rd lenEdge)
    have os8 := os7.below hBB
    have HRE8 := Lib.hid (HRE7.out.below hBB (Nat.le_refl _))
    clear X8 X9 Y8 Y9 hba hbb ho7 os7 HRE7 HRY7 HRG7 ha7 hse HDR
    go_wp2_with fail
    refine (inDegs_spec gn gA gN gC gl _ HRG8.out).mono ?_
    rintro e w9 ⟨dA, dN, dC, rfl, od, hb9⟩
    have BP9 := BP8.trans (hb9.mono BP8.size)
    have HRE9 := Lib.hid (HRE8.out.below hb9 (Nat.le_refl _))
    have RR := od.rd
    obtain ⟨hro, hri⟩ := (os8.below hb9).rd
    have HRI := Lib.hid hri
    have HdN : Hid ((dN : Int) = gn) := Lib.hid (by
      have h2 := RR.len
      obtain ⟨m, rfl⟩ := Int.eq_ofNat_of_zero_le (show 0 ≤ gn by omega)
      rw [degG_yes HGB.out, tally_len] at h2
      omega)
    generalize degG EdgeR.to gn gl = zs at *
    have dm := RR.max
    have dle := RR.le
    have rm := hro.max
    have rle := hro.le
    simp only at rm rle
    unfold maxLen at dm rm
    have hgl : gl.length ≤ 13 := by rw [HGL.out]; exact h13
    clear Z0 Z1 HRG8 HRE8 os8 hb9 od hri hBB HX64 hp
    go_wp2
    go_loopw [56] (fun i wr => ∃ k : Nat, k ≤ eN ∧ i = .int .i64 k ∧ Below w9.heap.size w9 wr) (fun i _ => eN - (intOf i).toNat)
    case atStart => exact ⟨0, Nat.zero_le _, rfl, Below.refl _ _⟩
    case round =>
      obtain ⟨k, hk, rfl, hb⟩ := hrel
      obtain ⟨wo, hwo⟩ : ∃ wo, wo = wr := ⟨_, rfl⟩
      subst hwo
      by_cases hlt : k < eN
      · obtain ⟨lo, hi, F⟩ := HSF.out k (by rw [HEL.out]; exact hlt)
        obtain ⟨bS, oS, hrA, hblS, hcS⟩ := hro.rowShard (by show 0 < eN; omega)
        have hrA2 : rA = some ⟨bS, oS, none⟩ := hrA
        subst hrA2
        obtain ⟨k0, k1, k2⟩ := hcS k hlt
        have cb : ∀ o, wo.cell? ⟨bS, o, none⟩ = w9.cell? ⟨bS, o, none⟩ := fun o => hb.cell (p := ⟨bS, o, none⟩) hblS
        rw [← cb] at k0 k1 k2
        try simp only at k0 k1 k2
        have hkx : k < rL.length := by have : rL.length = eN := hro.len; omega
        have HX : Hid (Rd encSEdge 5 wo (atShard rL k).edgesA (atShard rL k).edgesN (atShard rL k).edgesC (atShard rL k).edges) := Lib.hid (by
          rw [atShard_eq rL k hkx]
          exact (HRI.out _ (List.getElem_mem hkx)).below hb (Nat.le_refl _))
        have HF := Lib.hid F
        rw [F.l] at k0
        rw [F.h] at k1
        have hlh := F.le
        have htop := F.top
        clear hcS cb F hkx hrA hblS
        generalize atShard rL k = x at *
        obtain ⟨xlo, xhi, xA, xN, xC, xs⟩ := x
        try simp only at k2 HX
        have hki : (k : Int) < (eN : Int) := by omega
        have hal := (Below.refl wo.heap.size wo).alloc (Nat.le_refl _) (.cells #[.int .i64 lo, .int .i64 hi, .slice xA xN xC] 38)
        have B0 : (wo.alloc (.cells #[.int .i64 lo, .int .i64 hi, .slice xA xN xC] 38)).cell? ⟨wo.heap.size, 0, none⟩ = some (.int .i64 lo) := by simp [go_sem]
        have B1 : (wo.alloc (.cells #[.int .i64 lo, .int .i64 hi, .slice xA xN xC] 38)).cell? ⟨wo.heap.size, 1, none⟩ = some (.int .i64 hi) := by simp [go_sem]
        have B2 : (wo.alloc (.cells #[.int .i64 lo, .int .i64 hi, .slice xA xN xC] 38)).cell? ⟨wo.heap.size, 2, none⟩ = some (.slice xA xN xC) := by simp [go_sem]
        have hbA := hb.trans (hal.mono hb.size)
        have HXA := Lib.hid (HX.out.below hal (Nat.le_refl _))
        go_wp2_with fail
        generalize wo.alloc (.cells #[.int .i64 lo, .int .i64 hi, .slice xA xN xC] 38) = WS at *
        generalize wo.heap.size = BX at *
        go_wp2
        go_loopw [11, 12] (fun c v wr => ∃ t : Nat, lo ≤ t ∧ t ≤ hi ∧ c = .int .i64 ((cntTo gl (lo : Int) (t : Int) : Nat) : Int) ∧ v = .int .i64 t ∧ Below WS.heap.size WS wr) (fun _ v _ => hi - (intOf v).toNat)
        case atStart => exact ⟨lo, Nat.le_refl _, hlh, by rw [cntTo_lo]; rfl, rfl, Below.refl _ _⟩
        case round =>
          obtain ⟨t, ht1, ht2, rfl, rfl, hbt⟩ := hrel
          have C1 := cell_later hbt B1
          have hbR := hbA.trans (hbt.mono hbA.size)
          by_cases hth : t < hi
          · obtain ⟨b1, off1, hdA, hbl1, hc1⟩ := RR.ints (by have := HdN.out; omega)
            subst hdA
            have hcell1 : wr.cell? ⟨b1, off1 + t, none⟩ = some (.int .i64 (zs[t]?.getD 0)) := (hbR.cell (p := ⟨b1, off1 + t, none⟩) hbl1).trans (hc1 t (by have := HdN.out; omega))
            have htd : (t : Int) < (dN : Int) := by have := HdN.out; omega
            have hth2 : (t : Int) < (hi : Int) := by omega
            have HNX := Lib.hid (HF.out.next t ht1 hth)
            have HIV := Lib.hid (HF.out.iv t ht1 hth)
            have q1 := cntTo_le gl (lo : Int) (t : Int)
            have q2 := cntTo_le gl (lo : Int) ((t + 1 : Nat) : Int)
            have q3 : ((cntTo gl (lo : Int) ((t + 1 : Nat) : Int) : Nat) : Int) ≤ 13 := by omega
            rw [HNX.out] at q3
            have q4 : 0 ≤ ((cntTo gl (lo : Int) (t : Int) : Nat) : Int) + zs[t]?.getD 0 := by rw [← HNX.out]; omega
            clear hc1 q2
            generalize zs[t]?.getD 0 = dv at *
            generalize cntTo gl (lo : Int) (t : Int) = cv at *
            go_wp2_with fail
            refine (intervalOf_impl (t : Int) eA eN eC es _ (HRE9.out.below hbR (Nat.le_refl _))).mono ?_
            rintro e w11 ⟨rfl, hb11⟩
            rw [HIV.out]
            have hb12 := hbt.trans (hb11.mono hbt.size)
            go_wp2
            go_roundw
            case rel => exact ⟨t + 1, by omega, by omega, by rw [HNX.out], by go_num, hb12⟩
            case measure => simp [intOf]; omega
          · have hte : t = hi := by omega
            subst hte
            have C0 := cell_later hbt B0
            have C2 := cell_later hbt B2
            have HSB : Hid (shardB (lo : Int) (t : Int) xs = true) := Lib.hid (by have h2 := HF.out.ok; have h3 := HF.out.l; have h4 := HF.out.h; simp only at h2 h3 h4; rw [h3, h4] at h2; exact h2)
            have HCN : Hid (cntTo gl (lo : Int) (t : Int) = xN) := Lib.hid (by have h2 := HF.out.cnt; simp only at h2; rw [← h2]; exact HX.out.len)
            rw [HCN.out]
            go_wp2_with fail
            refine (shardOk_impl (lo : Int) (t : Int) xA xN xC xs _ (HXA.out.below hbt (Nat.le_refl _))).mono ?_
            rintro e w11 ⟨rfl, hb11⟩
            rw [HSB.out]
            have D2 := cell_later hb11 C2
            have hb12 := hbR.trans (hb11.mono hbR.size)
            go_wp2
            go_roundw
            case rel => exact ⟨k + 1, by omega, by go_num, hb12⟩
            case measure => simp [intOf]; omega
      · obtain rfl : k = eN := by omega
        have BPE := BP9.trans (hb.mono BP9.size)
        go_wp2
        go_ret
        exact ⟨rfl, BPE⟩
  · have hni : ¬ (n : Int) ≤ 1048576 := by omega
    go_enter Tryd.func3, Tryd.ntmps3
    go_wp2
    go_ret
    exact ⟨rfl, Below.refl _ _⟩
end Go.Proofs.YthffmjeodoinlaaDoor

/- FnShards returns true for every input: the card. No condition. -/
namespace Go.Proofs.YthffmjeodoinlaaDoor.fnShards
open Go.ChangeShapes Go.WideShapes Go.ChangeAt Go.RowKit Go.Deep
open Go.ChangeMaps (open_string shut_string)
set_option linter.unusedVariables false
set_option maxRecDepth 100000 in
set_option maxHeartbeats 4000000 in
theorem lifted (os : Os) (started : os.Started) (H : Type) (enc : TypeId × Value → H) (F : Stop.Interp) :
    ReturnsInHanded {} Tryd.checked os 3 .any ((OpenSpec.ofChange Rows.fnShardsSpec).preRow enc Tryd.prog Tryd.f3 Rows.fnShardsRow.domain false Rows.fnShardsRow.laid) (((OpenSpec.ofChange Rows.fnShardsSpec).at F).post enc Tryd.prog Tryd.f3 false true false false) := by
  refine returnsInHanded_of_row (C := Tryd.checked) (s := OpenSpec.ofChange Rows.fnShardsSpec) own started (by kernel_rfl) Tryd.func3
    (witness_lay (enc := enc) (os := os) (s := OpenSpec.ofChange Rows.fnShardsSpec) false #[.slice none 0 0] 8 rfl
      (World.shaped_of_ZipB (by kernel_rfl) (by kernel_rfl)) (by kernel_rfl) (by kernel_rfl) (by kernel_rfl)
      (by rw [MakeChecks.laidMetH_plain _ _ _ (by kernel_rfl)]; exact laidMet_laidAll _ (by kernel_rfl) (by kernel_rfl))) ?_
  intro W base args ds gs before hval0 hW _ _ _ hL hsh _
  have hval : ∀ (j : Nat) t v, Tryd.f3.params[j]? = some t → args[j]? = some v → Value.okWide Tryd.prog W .any base t v := hval0
  have hW' := hW
  obtain ⟨p, q, hA0, hV, rfl, hfz, hnd⟩ := hW
  have hA : DataW.TrodAll enc Tryd.prog W 0 (fun _ => true) true Tryd.f3.params.toList args.toList ds p := hA0
  rw [Tryd.params3] at hA hval
  obtain ⟨v0, vs0, d0, ds0, p0, q0, hargs, rfl, rfl, h0, r0⟩ := trodAll_cons hA
  obtain ⟨rfl, rfl, rfl⟩ := trodAll_nil r0
  obtain rfl : args = #[v0] := by cases args; simp_all
  obtain ⟨rfl, rfl⟩ := trodVars_none hV
  have k0 := h0
  have lt0 : ∀ x ∈ p0, x.block < W.heap.size := by obtain ⟨m, hm⟩ := k0; exact DataW.trod_lt m _ _ _ hm
  obtain ⟨b0, m0, kk0, rfl⟩ := okWide_slice Tryd.underlying22 (hval 0 22 v0 rfl rfl)
  obtain ⟨fu0, hf0⟩ := h0
  obtain ⟨a0, n0, c0, z0, hc0, rd0, gd0⟩ := op_sl (sz := 1) Tryd.underlying22 (by kernel_rfl) (by decide) (op_u8 Tryd.underlying5) _ _ _ hf0
  simp [Value.cells] at hc0
  obtain ⟨rfl, rfl, rfl⟩ := hc0
  rw [MakeChecks.laidMetH_plain _ _ _ (by kernel_rfl)] at hL
  have hp : Pow Tryd.prog W := pow_head hL.tail.tail
  clear hA0 hval0
  refine (walk_FnShards b0 m0 kk0 z0 W rd0 hp).mono fun e W' ⟨he, bel⟩ => ?_
  subst he
  exact ⟨_, rfl, _, _, _, [], _, [], hW', trodAll_mk1 (shut_bool Tryd.underlying4 _), (trodAll_cons_mk (Below.trod laidOut (by kernel_rfl) (of_decide_eq_true (by kernel_rfl)) k0 bel lt0) trodAll_mk0), rfl, bel.frame _, fun h => by cases h⟩

theorem said : Rows.FnShardsSaid :=
  OpenClaim.holds_of_cond 3 Tryd.f3 rfl rfl rfl rfl rfl rfl rfl ⟨rfl, rfl, rfl, rfl, rfl⟩ rfl rfl rfl rfl rfl (by kernel_rfl) Tryd.func3 (by kernel_rfl)
    (of_decide_eq_true (by kernel_rfl)) (by unfold Func.isWrapper; first | (rw [if_pos (by decide +kernel)]; kernel_rfl) | (rw [if_neg (of_decide_eq_false (by kernel_rfl))]; exact ⟨rfl, rfl⟩))
    (fun os started H enc _ F0 => by rw [OpenClaim.pre_eq_preRow]; exact lifted os started H enc F0)

theorem proved : Rows.FnShardsCardSaid :=
  Claim7.holds_tied_plain_at .later [] [.data, .data, .data] true (true, "6af07d957961cb804b90ad54446ea6459b02e4a1b43f92ab4420638e2021b51e") false
    said (fun _ h => by cases h) (by kernel_rfl) (fun _ h => by cases h) fnShards_row_tie rfl ⟨rfl, rfl⟩ (by kernel_rfl) rfl
    (fun f fn hf hfn => by
      obtain rfl : f = 3 := Option.some.inj ((show Tryd.prog.funcNamed "loop.example/g00671/laws.FnShards" = some 3 by kernel_rfl).symm.trans hf) |>.symm
      obtain rfl : fn = Tryd.f3 := (Option.some.inj (Tryd.func3.symm.trans hfn)).symm
      exact ⟨by kernel_rfl, fun j t ht => by
        rw [Tryd.params3] at ht
        have h3 : t = 22 := by
          rcases j with _ | j
          · simpa using ht.symm
          · simp at ht
        subst h3
        exact (show Tryd.prog.wantsStandIn 22 = false by kernel_rfl)⟩)
    (by kernel_rfl)
#print axioms proved
end Go.Proofs.YthffmjeodoinlaaDoor.fnShards

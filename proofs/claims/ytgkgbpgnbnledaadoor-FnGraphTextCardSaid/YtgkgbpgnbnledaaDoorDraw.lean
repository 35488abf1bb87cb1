/- The draws' cursor: what it gives is in range. -/
import Derived.Test.YtgkgbpgnbnledaaDoorRows
import Derived.Test.YtgkgbpgnbnledaaDoorOwn
import Derived.Test.YtgkgbpgnbnledaaDoorApp
import Derived.Test.YtgkgbpgnbnledaaDoorByteS
namespace Go.Proofs.YtgkgbpgnbnledaaDoor
open Go.RowKit
theorem and_nat (x : Int) (m : Nat) (hm : m < 4611686018427387904) : 0 ≤ bits .and .i64 x (m : Int) ∧ bits .and .i64 x (m : Int) ≤ (m : Int) := by
  have hx : (BitVec.ofInt 64 x &&& BitVec.ofInt 64 (m : Int)).toNat ≤ m := by
    rw [BitVec.toNat_and, ofInt_u64 m (by omega)]
    exact Nat.and_le_right
  have e : bits .and .i64 x (m : Int) = IntKind.i64.wrap ((BitVec.ofInt 64 x &&& BitVec.ofInt 64 (m : Int)).toNat : Int) := rfl
  rw [e, IntWalk.i64_in _ (by omega)]
  omega
theorem and255 (x : Int) : 0 ≤ bits .and .i64 x 255 ∧ bits .and .i64 x 255 ≤ 255 := and_nat x 255 (by omega)
/-- The cursor's block. -/
structure Cur (w : World) (R : Nat) (a : Option Addr) (n cap : Nat) : Prop where
  c0 : w.cell? ⟨R, 0, none⟩ = some (.slice a n cap)
  c1 : ∃ i : Nat, i ≤ n ∧ w.cell? ⟨R, 1, none⟩ = some (.int .i64 i)
  c2 : ∃ h : Int, w.cell? ⟨R, 2, none⟩ = some (.int .i64 h)
  f1 : w.frozen? ⟨R, 1, none⟩ = false
  f2 : w.frozen? ⟨R, 2, none⟩ = false
theorem Cur.lt {w : World} {R : Nat} {a : Option Addr} {n cap : Nat} (h : Cur w R a n cap) : R < w.heap.size := World.block_lt_of_cell? _ _ h.c0
theorem Cur.keep {w w' : World} {R : Nat} {a : Option Addr} {n cap : Nat} (h : Cur w R a n cap) (hb : w'.heap[R]? = w.heap[R]?) : Cur w' R a n cap := by
  have c : ∀ o, w'.cell? ⟨R, o, none⟩ = w.cell? ⟨R, o, none⟩ := fun o => World.cell?_of_block (w := w) (a := ⟨R, o, none⟩) hb
  have f : ∀ o, w'.frozen? ⟨R, o, none⟩ = w.frozen? ⟨R, o, none⟩ := fun o => by unfold World.frozen?; rw [hb]
  obtain ⟨i, hi, e1⟩ := h.c1
  obtain ⟨h', e2⟩ := h.c2
  exact ⟨(c 0).trans h.c0, ⟨i, hi, (c 1).trans e1⟩, ⟨h', (c 2).trans e2⟩, (f 1).trans h.f1, (f 2).trans h.f2⟩
theorem Cur.below {w w' : World} {R : Nat} {a : Option Addr} {n cap : Nat} (h : Cur w R a n cap) (hb : Below w.heap.size w w') : Cur w' R a n cap := h.keep (hb.block R h.lt)
theorem Cur.setH {w : World} {R : Nat} {a : Option Addr} {n cap : Nat} (h : Cur w R a n cap) (H : Int) : Cur (w.setCell ⟨R, 2, none⟩ (.int .i64 H)) R a n cap := by
  obtain ⟨i, hi, e1⟩ := h.c1
  obtain ⟨h', e2⟩ := h.c2
  exact ⟨by rw [World.cell?_setCell_other _ _ _ _ (by simp)]; exact h.c0, ⟨i, hi, by rw [World.cell?_setCell_other _ _ _ _ (by simp)]; exact e1⟩, ⟨H, World.cell?_setCell_same _ _ _ e2⟩, by rw [World.frozen?_setCell]; exact h.f1, by rw [World.frozen?_setCell]; exact h.f2⟩
theorem Cur.setI {w : World} {R : Nat} {a : Option Addr} {n cap : Nat} (h : Cur w R a n cap) (j : Nat) (hj : j ≤ n) : Cur (w.setCell ⟨R, 1, none⟩ (.int .i64 j)) R a n cap := by
  obtain ⟨i, hi, e1⟩ := h.c1
  obtain ⟨h', e2⟩ := h.c2
  exact ⟨by rw [World.cell?_setCell_other _ _ _ _ (by simp)]; exact h.c0, ⟨j, hj, World.cell?_setCell_same _ _ _ e1⟩, ⟨h', by rw [World.cell?_setCell_other _ _ _ _ (by simp)]; exact e2⟩, by rw [World.frozen?_setCell]; exact h.f1, by rw [World.frozen?_setCell]; exact h.f2⟩
theorem Cur.drewN {w : World} {R : Nat} {a : Option Addr} {n cap : Nat} (h : Cur w R a n cap) (q : Nat) : Cur (w.drewN q) R a n cap := h.below (below_drewN (Below.refl _ _) q)
def RetByte (R : Nat) (a : Option Addr) (n cap : Nat) (w : World) (en : Ending) (w' : World) : Prop := ∃ x : Int, en = .returned (.int .i64 x) ∧ (0 ≤ x ∧ x ≤ 255) ∧ Cur w' R a n cap ∧ Win R (R + 1) w w'
set_option maxRecDepth 100000 in
set_option maxHeartbeats 3200000 in
theorem l01Byte_any (R : Nat) (a : Option Addr) (n cap : Nat) (zs : List Int) (w0 w : World) (h : Rd (encI .u8) 1 w0 a n cap zs) (hb0 : Below w0.heap.size w0 w) (hRw : w0.heap.size ≤ R) (hC : Cur w R a n cap) (hn : n ≤ 1048576) :
    Calls Tryd.prog 73 #[.pointer (some ⟨R, 0, none⟩)] w fun e w' => RetByte R a n cap w e w' := by
  have HC := Lib.hid hC
  have hRl := hC.lt
  obtain ⟨c0, ⟨i, hi, c1⟩, ⟨hh, c2⟩, f1, f2⟩ := hC
  have hm := h.max
  have hle := h.le
  unfold maxLen at hm
  by_cases hin : i < n
  · have hini : (i : Int) < (n : Int) := by omega
    obtain ⟨b, off, rfl, hbl, hc⟩ := h.ints (by omega)
    have cz : w.cell? ⟨b, off + i, none⟩ = some (.int .u8 (zs.getD i 0)) := (hb0.cell (p := ⟨b, off + i, none⟩) hbl).trans (hc i hin)
    have hne : R ≠ b := by omega
    clear hc
    generalize zs.getD i 0 = Z at *
    go_enter Tryd.func73, Tryd.ntmps73
    go_wp2_with fail
    go_quiet (fail)
    go_wp2_with fail
    go_quiet (fail)
    go_wp2_with fail
    go_quiet (fail)
    go_wp2
    go_ret
    have hC : Cur w R (some ⟨b, off, none⟩) n cap := HC
    exact ⟨_, rfl, and255 _, ((hC.setH _).drewN _).setI (i + 1) (by omega), ((Win.set w R 2 _ (Nat.le_refl _) (by omega)).trans (Win.of_below (below_drewN (Below.refl _ _) _))).trans (Win.set _ R 1 _ (Nat.le_refl _) (by omega))⟩
  · have hini : (n : Int) ≤ (i : Int) := by omega
    go_enter Tryd.func73, Tryd.ntmps73
    go_wp2_with fail
    go_quiet (fail)
    go_wp2_with fail
    go_quiet (fail)
    go_wp2
    go_ret
    have hC : Cur w R a n cap := HC
    exact ⟨_, rfl, and255 _, ((hC.setH _).drewN _).drewN _, (Win.set w R 2 _ (Nat.le_refl _) (by omega)).trans (Win.of_below (below_drewN (below_drewN (Below.refl _ _) _) _))⟩
/-- Below n: 0 when n ≤ 0, and else from 0 to n - 1. -/
def RetUnder (R : Nat) (a : Option Addr) (n cap : Nat) (m : Int) (w : World) (en : Ending) (w' : World) : Prop := ∃ x : Int, en = .returned (.int .i64 x) ∧ 0 ≤ x ∧ (m ≤ 0 → x = 0) ∧ (0 < m → x < m) ∧ Cur w' R a n cap ∧ Win R (R + 1) w w'
theorem emod_int (x m : Int) (_hx : 0 ≤ x) (hm : 0 < m) : 0 ≤ x % m ∧ x % m < m := ⟨Int.emod_nonneg _ (by omega), Int.emod_lt_of_pos _ hm⟩
set_option maxRecDepth 100000 in
set_option maxHeartbeats 3200000 in
theorem l01Below_any (R : Nat) (a : Option Addr) (n cap : Nat) (zs : List Int) (m : Int) (hm64 : m ≤ 9223372036854775807) (w0 w : World) (h : Rd (encI .u8) 1 w0 a n cap zs) (hb0 : Below w0.heap.size w0 w) (hRw : w0.heap.size ≤ R) (hC : Cur w R a n cap) (hn : n ≤ 1048576) :
    Calls Tryd.prog 72 #[.pointer (some ⟨R, 0, none⟩), .int .i64 m] w fun e w' => RetUnder R a n cap m w e w' := by
  have hRl := hC.lt
  by_cases hm : m ≤ 0
  · go_enter Tryd.func72, Tryd.ntmps72
    go_wp2
    go_ret
    exact ⟨0, rfl, by omega, fun _ => rfl, fun _ => by omega, hC, Win.refl _ _ _⟩
  have hm0 : 0 < m := by omega
  have i1 : ¬ (m = 0) := by omega
  by_cases hm2 : m ≤ 256
  · go_enter Tryd.func72, Tryd.ntmps72
    go_wp2_with fail
    refine (l01Byte_any R a n cap zs w0 _ h hb0 hRw hC hn).mono ?_
    rintro e w1 ⟨x, rfl, ⟨hx0, hx1⟩, hC1, hW1⟩
    simp only
    go_wp2
    go_ret
    exact ⟨_, rfl, (emod_int x m hx0 hm0).1, fun _ => by omega, fun _ => (emod_int x m hx0 hm0).2, hC1, hW1⟩
  · have i2 : 256 < m := by omega
    go_enter Tryd.func72, Tryd.ntmps72
    go_wp2_with fail
    refine (l01Byte_any R a n cap zs w0 _ h hb0 hRw hC hn).mono ?_
    rintro e w1 ⟨x1, rfl, ⟨hx1, hy1⟩, hC1, hW1⟩
    have hb1 : Below w0.heap.size w0 w1 := hb0.trans (hW1.below hRw hb0.size)
    simp only
    go_wp2_with fail
    refine (l01Byte_any R a n cap zs w0 _ h hb1 hRw hC1 hn).mono ?_
    rintro e w2 ⟨x2, rfl, ⟨hx2, hy2⟩, hC2, hW2⟩
    have hb2 : Below w0.heap.size w0 w2 := hb1.trans (hW2.below hRw hb1.size)
    simp only
    go_wp2_with fail
    refine (l01Byte_any R a n cap zs w0 _ h hb2 hRw hC2 hn).mono ?_
    rintro e w3 ⟨x3, rfl, ⟨hx3, hy3⟩, hC3, hW3⟩
    have hb3 : Below w0.heap.size w0 w3 := hb2.trans (hW3.below hRw hb2.size)
    simp only
    go_wp2_with fail
    refine (l01Byte_any R a n cap zs w0 _ h hb3 hRw hC3 hn).mono ?_
    rintro e w4 ⟨x4, rfl, ⟨hx4, hy4⟩, hC4, hW4⟩
    simp only
    go_wp2
    go_ret
    have hs : 0 ≤ x1 * 16777216 + x2 * 65536 + x3 * 256 + x4 := by omega
    exact ⟨_, rfl, (emod_int _ m hs hm0).1, fun _ => by omega, fun _ => (emod_int _ m hs hm0).2, hC4, ((hW1.trans hW2).trans hW3).trans hW4⟩
/-- A row of at most so many bytes of the call's own. -/
def RetBytes (R : Nat) (a : Option Addr) (n cap : Nat) (most : Nat) (w : World) (en : Ending) (w' : World) : Prop := ∃ (a' : Option Addr) (n' c' : Nat) (ys : List Int), en = .returned (.slice a' n' c') ∧ OwnI .u8 5 w.heap.size w'.heap.size w' a' n' c' ys ∧ (∀ y ∈ ys, In8 y) ∧ n' ≤ most ∧ Cur w' R a n cap ∧ Win R (R + 1) w w'
set_option maxRecDepth 100000 in
set_option maxHeartbeats 3200000 in
theorem l01Bytes_any (R : Nat) (a : Option Addr) (n cap : Nat) (zs : List Int) (most : Nat) (hmost : most ≤ 1000) (w0 w : World) (h : Rd (encI .u8) 1 w0 a n cap zs) (hb0 : Below w0.heap.size w0 w) (hRw : w0.heap.size ≤ R) (hC : Cur w R a n cap) (hn : n ≤ 1048576) :
    Calls Tryd.prog 60 #[.pointer (some ⟨R, 0, none⟩), .int .i64 most] w fun e w' => RetBytes R a n cap most w e w' := by
  have hRl := hC.lt
  obtain ⟨i0, hi, hz0, hz1, hz2⟩ := info_parts infoByteS
  have hww : wrap64 ((most : Int) + 1) = (most : Int) + 1 := IntWalk.wrap64_in _ ⟨by omega, by omega⟩
  go_enter Tryd.func60, Tryd.ntmps60
  go_wp2_with fail
  refine (l01Below_any R a n cap zs _ (by omega) w0 _ h hb0 hRw hC hn).mono ?_
  rintro e w1 ⟨x, rfl, hx0, _, hx1, hC1, hW1⟩
  have hx2 := hx1 (by omega)
  clear hx1 
  have hs1 := hW1.size
  obtain ⟨N, rfl⟩ := Int.eq_ofNat_of_zero_le hx0
  simp only
  go_wp2
  go_loopw [6, 7] (fun v i wr => ∃ (k : Nat) (a' : Option Addr) (c' : Nat) (ys : List Int), k ≤ N ∧ i = .int .i64 k ∧ v = .slice a' k c' ∧ wr.ownsRow w1.heap.size 5 1 (.slice a' k c') k (ys.map (.int .u8)) ∧ ys.length = k ∧ Hid (∀ y ∈ ys, In8 y) ∧ Cur wr R a n cap ∧ Win R (R + 1) w wr ∧ w1.heap.size ≤ wr.heap.size) (fun _ i _ => N - (intOf i).toNat)
  case atStart =>
    have hal : Below w1.heap.size w1 (w1.alloc (.cells #[] 5)) := (Below.refl _ _).alloc (Nat.le_refl _) _
    exact ⟨0, some ⟨w1.heap.size, 0, none⟩, 0, [], Nat.zero_le _, rfl, rfl, World.ownsRow_lit w1 #[] 0 (Nat.le_refl _) (by unfold maxLen; omega) rfl, rfl, (fun y hy => by simp at hy), hC1.below hal, hW1.trans (Win.of_below hal), hal.size⟩
  case round =>
    obtain ⟨k, a', c', ys, hk, rfl, rfl, ho, hy, ha, hC, hW, hsz⟩ := hrel
    have HY := Lib.hid hy
    clear hy hC1
    have hb := hb0.trans (hW.below hRw hb0.size)
    by_cases hlt : k < N
    · have hki : (k : Int) < (N : Int) := by omega
      go_wp2_with fail
      refine (l01Byte_any R a n cap zs w0 _ h hb hRw hC hn).mono ?_
      rintro e w2 ⟨x, rfl, ⟨hx0, hx1⟩, hC2, hW2⟩
      simp only
      have ho2 := own_win ho hW2 (fun g hg => Or.inr (by have h7 := (World.ownsRow.lt ho g hg).1; omega))
      have hs2 := hW2.size
      have i8 : IntKind.u8.wrap x = x := IntWalk.u8_in _ (by omega)
      go_wp2_with (at_builtin; refine app_any rfl _ _ 45 rfl w1.heap.size 5 Tryd.underlying45 hi hz0 hz1 hz2 rfl (by decide) a' k c' (ys.map (.int .u8)) rfl (ho2.alloc _) (some ⟨w2.heap.size, 0, none⟩) 1 1 [.int .u8 x] rfl rfl (one_news _ _ _) (fun hh => by cases hh) (int_one _ _) ?e4 ?e5 ?e6 ?_)
      case e4 => unfold maxLen; omega
      case e5 => omega
      case e6 => simp; omega
      intro A C w3 ho3 hb3
      go_wp2
      go_roundw
      case rel =>
        have hal : Below w2.heap.size w2 (w2.alloc (.cells #[.int .u8 x] 5)) := (Below.refl _ _).alloc (Nat.le_refl _) _
        have hb4 := (hal.mono (Nat.le_trans hsz hs2)).trans hb3
        refine ⟨k + 1, A, C, ys ++ [x], by omega, by go_num, rfl, by rw [List.map_append]; exact ho3, by rw [List.length_append, HY.out]; rfl, ?_, hC2.keep (hb4.block R (by omega)), (hW.trans hW2).then_below (hb4.mono hs1), by have := hb4.size; omega⟩
        intro y hy
        rcases List.mem_append.1 hy with hy | hy
        · exact ha.out y hy
        · rw [List.mem_singleton] at hy
          subst hy
          exact ⟨by omega, by omega⟩
      case measure => simp [intOf]; omega
    · obtain rfl : k = N := by omega
      go_wp2
      go_ret
      exact ⟨a', k, c', ys, rfl, OwnI.of (own_base ho hs1) HY.out (by omega), ha.out, by omega, hC, hW⟩
theorem Cur.new (w : World) (a : Option Addr) (n cap : Nat) (x : Int) (t : TypeId) : Cur (w.alloc (.cells #[.slice a n cap, .int .i64 0, .int .i64 x] t)) w.heap.size a n cap :=
  ⟨by simp [go_sem], ⟨0, Nat.zero_le _, by simp [go_sem]⟩, ⟨x, by simp [go_sem]⟩, by simp [go_sem], by simp [go_sem]⟩
/-- A new cursor over the code. -/
def RetCur (a : Option Addr) (n cap : Nat) (w : World) (en : Ending) (w' : World) : Prop := ∃ R : Nat, en = .returned (.pointer (some ⟨R, 0, none⟩)) ∧ w.heap.size ≤ R ∧ Cur w' R a n cap ∧ Below w.heap.size w w'
set_option maxRecDepth 100000 in
set_option maxHeartbeats 3200000 in
theorem l01New_any (a : Option Addr) (n cap : Nat) (zs : List Int) (w : World) (h : Rd (encI .u8) 1 w a n cap zs) (hn : n ≤ 1048576) :
    Calls Tryd.prog 58 #[.slice a n cap] w fun e w' => RetCur a n cap w e w' := by
  have hm := h.max
  have hle := h.le
  unfold maxLen at hm
  go_enter Tryd.func58, Tryd.ntmps58
  go_wp2
  go_loopw [3, 4] (fun v i wr => ∃ (k : Nat) (x : Int), k ≤ n ∧ i = .int .i64 k ∧ v = .int .i64 x ∧ wr = w) (fun _ i _ => n - (intOf i).toNat)
  case atStart => exact ⟨0, _, Nat.zero_le _, rfl, rfl, rfl⟩
  case round =>
    obtain ⟨k, x, hk, rfl, rfl, rfl⟩ := hrel
    by_cases hlt : k < n
    · have hki : (k : Int) < (n : Int) := by omega
      obtain ⟨b, off, rfl, hbl, hc⟩ := h.ints (by omega)
      have cz : wr.cell? ⟨b, off + k, none⟩ = some (.int .u8 (zs.getD k 0)) := hc k hlt
      clear hc
      generalize zs.getD k 0 = Z at *
      by_cases hk4 : k < 4000
      · have hk4i : (k : Int) < 4000 := by omega
        go_wp2
        go_roundw
        case rel => exact ⟨k + 1, _, by omega, by go_num, rfl, trivial⟩
        case measure => simp [intOf]; omega
      · have hk4i : (4000 : Int) ≤ (k : Int) := by omega
        go_wp2
        go_ret
        exact ⟨_, rfl, Nat.le_refl _, Cur.new _ _ _ _ _ _, (Below.refl _ _).alloc (Nat.le_refl _) _⟩
    · obtain rfl : k = n := by omega
      go_wp2
      go_ret
      exact ⟨_, rfl, Nat.le_refl _, Cur.new _ _ _ _ _ _, (Below.refl _ _).alloc (Nat.le_refl _) _⟩
/-- A number below m. -/
def RetNum (m : Int) (w : World) (en : Ending) (w' : World) : Prop := ∃ x : Int, en = .returned (.int .i64 x) ∧ 0 ≤ x ∧ (m ≤ 0 → x = 0) ∧ (0 < m → x < m) ∧ Below w.heap.size w w'
/-- A frame that is right, with at most nine bytes of data. -/
def RetFrm (R : Nat) (a : Option Addr) (n cap : Nat) (w : World) (en : Ending) (w' : World) : Prop := ∃ (k : Int) (a' : Option Addr) (n' c' : Nat) (ys : List Int), en = .returned (.agg #[.int .i64 k, .slice a' n' c']) ∧ OwnI .u8 5 w.heap.size w'.heap.size w' a' n' c' ys ∧ (∀ y ∈ ys, In8 y) ∧ n' ≤ 9 ∧ (1 ≤ k ∧ k ≤ 3) ∧ Cur w' R a n cap ∧ Win R (R + 1) w w'
end Go.Proofs.YtgkgbpgnbnledaaDoor

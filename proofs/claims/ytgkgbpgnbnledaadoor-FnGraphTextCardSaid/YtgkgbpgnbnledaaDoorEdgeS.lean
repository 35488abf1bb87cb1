/- Rows of the struct Edge: its cells, toX, eqX, toXS, eqXS, szXS of the statements. -/
import Derived.Test.YtgkgbpgnbnledaaDoorTyEdge
import Derived.Test.YtgkgbpgnbnledaaDoorRowS
import Derived.Test.YtgkgbpgnbnledaaDoorKeep
namespace Go.Proofs.YtgkgbpgnbnledaaDoor
open Go.RowKit
def atEdge (xs : List EdgeR) (j : Nat) : EdgeR := xs.getD j ⟨0, 0, 0⟩
theorem atEdge_eq (xs : List EdgeR) (j : Nat) (h : j < xs.length) : atEdge xs j = xs[j] := by simp [atEdge, List.getD, h]
theorem lenEdge : ∀ x : EdgeR, (encEdge x).length = 3 := fun _ => rfl
/-- The cells of a row, in the walk's own spelling. -/
theorem Rd.rowEdge {w : World} {a : Option Addr} {n cap : Nat} {xs : List EdgeR} (h : Rd encEdge 3 w a n cap xs) (hn : 0 < n) :
    ∃ b off, a = some ⟨b, off, none⟩ ∧ b < w.heap.size ∧ ∀ j, j < n → w.cell? ⟨b, off + j * 3, none⟩ = some (.int .i64 (atEdge xs j).fr) ∧ w.cell? ⟨b, off + j * 3 + 1, none⟩ = some (.int .i64 (atEdge xs j).to) ∧ w.cell? ⟨b, off + j * 3 + 2, none⟩ = some (.int .i64 (atEdge xs j).wt) := by
  obtain ⟨b, off, ha, hl, hc⟩ := h.spot hn
  refine ⟨b, off, ha, hl, fun j hj => ?_⟩
  have hj' : j < xs.length := by rw [h.len]; exact hj
  rw [atEdge_eq xs j hj']
  exact ⟨hc j hj' 0 (.int .i64 xs[j].fr) rfl, hc j hj' 1 (.int .i64 xs[j].to) rfl, hc j hj' 2 (.int .i64 xs[j].wt) rfl⟩
set_option maxHeartbeats 800000 in
theorem toEdge_any (r : EdgeR) (w : World) : Calls Tryd.prog 67 #[.agg #[.int .i64 r.fr, .int .i64 r.to, .int .i64 r.wt]] w fun e w' => e = .returned (.agg #[.int .i64 r.fr, .int .i64 r.to, .int .i64 r.wt]) ∧ Below w.heap.size w w' := by
  have hb0 := ((Below.refl w.heap.size w).alloc (Nat.le_refl _) (.cells #[.int .i64 r.fr, .int .i64 r.to, .int .i64 r.wt] 83) |>.alloc (by simp) (.cells #[.int .i64 r.fr, .int .i64 r.to, .int .i64 r.wt] 50)).alloc (by simp; omega) (.cells #[.int .i64 r.fr, .int .i64 r.to, .int .i64 r.wt] 50)
  go_enter Tryd.func67, Tryd.ntmps67
  go_wp2
  refine bodyPost_ret (v := .agg #[.int .i64 r.fr, .int .i64 r.to, .int .i64 r.wt]) (by simp [results, Tryd.results67, go_sem]) rfl ?_
  exact ⟨rfl, hb0⟩
set_option maxHeartbeats 1600000 in
theorem eqEdge_any (r s : EdgeR) (w : World) : Calls Tryd.prog 69 #[.agg #[.int .i64 r.fr, .int .i64 r.to, .int .i64 r.wt], .agg #[.int .i64 s.fr, .int .i64 s.to, .int .i64 s.wt]] w fun e w' => e = .returned (.bool (decide (r = s))) ∧ Below w.heap.size w w' := by
  have hb0 := ((Below.refl w.heap.size w).alloc (Nat.le_refl _) (.cells #[.int .i64 r.fr, .int .i64 r.to, .int .i64 r.wt] 50)).alloc (by simp) (.cells #[.int .i64 s.fr, .int .i64 s.to, .int .i64 s.wt] 50)
  obtain ⟨a0, a1, a2⟩ := r
  obtain ⟨b0, b1, b2⟩ := s
  simp only at *
  by_cases h : (⟨a0, a1, a2⟩ : EdgeR) = ⟨b0, b1, b2⟩
  · cases h
    go_enter Tryd.func69, Tryd.ntmps69
    go_wp2
    go_ret
    exact ⟨rfl, hb0⟩
  · have hh : ((a0 != b0) = true) ∨ (a0 = b0 ∧ (a1 != b1) = true) ∨ (a0 = b0 ∧ a1 = b1 ∧ (a2 != b2) = true) := by
      simp only [EdgeR.mk.injEq] at h
      simp only [bne_iff_ne, ne_eq]
      omega
    obtain ⟨q, hq, HD⟩ : ∃ q, q = false ∧ Hid (decide ((⟨a0, a1, a2⟩ : EdgeR) = ⟨b0, b1, b2⟩) = q) := ⟨_, decide_eq_false h, Lib.hid rfl⟩
    clear h
    rcases hh with h | ⟨rfl, h⟩ | ⟨rfl, rfl, h⟩ <;> (go_enter Tryd.func69, Tryd.ntmps69; go_wp2; go_ret; exact ⟨by rw [HD.out, hq]; rfl, hb0⟩)
theorem szEdgeS_any (a : Option Addr) (n cap : Nat) (left : Int) (w : World) (h1 : 0 ≤ left) (h2 : left ≤ 1048576) (hn : n ≤ 9223372036854775807) :
    Calls Tryd.prog 45 #[.slice a n cap, .int .i64 left] w fun e w' => e = .returned (.int .i64 (leftB left n)) ∧ Below w.heap.size w w' := by
  by_cases h : left < n
  · have HL := Lib.hid (leftB_no h)
    go_enter Tryd.func45, Tryd.ntmps45
    go_wp2
    go_ret
    exact ⟨by rw [HL.out]; rfl, Below.refl _ _⟩
  · have HL := Lib.hid (leftB_yes h)
    go_enter Tryd.func45, Tryd.ntmps45
    go_wp2
    go_ret
    exact ⟨by rw [HL.out]; rfl, Below.refl _ _⟩
theorem infoEdge : (Tryd.prog.info? 50).map (fun i => (i.zero, i.size, i.bytes)) = some (some (.agg #[.int .i64 0, .int .i64 0, .int .i64 0]), 3, 24) := by kernel_rfl
set_option maxHeartbeats 1600000 in
theorem toEdgeS_any (a : Option Addr) (n cap : Nat) (xs : List EdgeR) (w : World) (h : Rd encEdge 3 w a n cap xs) (hn : n ≤ 1048576) :
    Calls Tryd.prog 48 #[.slice a n cap] w fun e w' => ∃ g, e = .returned (.slice (some ⟨g, 0, none⟩) n n) ∧ OwnS encEdge 3 50 w.heap.size w'.heap.size w' (some ⟨g, 0, none⟩) n n xs ∧ Below w.heap.size w w' := by
  obtain ⟨i0, hi, hz0, hz1, hz2⟩ := info_parts infoEdge
  have hL := Lib.hid h.len
  have hm := h.max
  have hle := h.le
  unfold maxLen at hm
  go_enter Tryd.func48, Tryd.ntmps48
  go_wp2_with (at_make; refine wpList_make_full _ rfl _ _ 34 rfl w.heap.size 50 i0 (.agg #[.int .i64 0, .int .i64 0, .int .i64 0]) 3 Tryd.underlying34 hi hz0 hz1 _ _ _ _ n rfl rfl rfl rfl ?b1 ?b2 ?b3 ?_)
  case b1 => rw [hz2]; omega
  case b2 => unfold maxLen; omega
  case b3 => simp
  intro w1 hown hgrow
  have hbel := below_grown hgrow (Nat.le_refl _) (by simp)
  have hown1 : w1.ownsRow w.heap.size 50 3 (.slice (some ⟨w.heap.size, 0, none⟩) n n) n ((cpyS (⟨0, 0, 0⟩ : EdgeR) xs 0).flatMap encEdge) := by
    have e := made_flat encEdge (⟨0, 0, 0⟩ : EdgeR) (by decide) n 3 rfl
    unfold cpyS
    simp only [List.take_zero, List.nil_append, Nat.sub_zero, hL.out]
    rw [← e]
    exact hown
  clear hown hgrow hi hz0 hz1 hz2
  go_wp2
  go_loopw [4] (fun i wr => ∃ k : Nat, k ≤ n ∧ i = .int .i64 k ∧ wr.ownsRow w.heap.size 50 3 (.slice (some ⟨w.heap.size, 0, none⟩) n n) n ((cpyS (⟨0, 0, 0⟩ : EdgeR) xs k).flatMap encEdge) ∧ Below w.heap.size w wr) (fun i _ => n - (intOf i).toNat)
  case atStart => exact ⟨0, Nat.zero_le _, rfl, hown1, hbel⟩
  case round =>
    obtain ⟨k, hk, rfl, ho, hb⟩ := hrel
    by_cases hlt : k < n
    · obtain ⟨b, off, rfl, hbl, hc⟩ := h.rowEdge (by omega)
      obtain ⟨k0, k1, k2⟩ := hc k hlt
      have cb : ∀ o, wr.cell? ⟨b, o, none⟩ = w.cell? ⟨b, o, none⟩ := fun o => hb.cell (p := ⟨b, o, none⟩) hbl
      rw [← cb] at k0 k1 k2
      have hkx : k < xs.length := by rw [hL.out]; exact hlt
      have hset := flat_set encEdge 3 lenEdge (cpyS (⟨0, 0, 0⟩ : EdgeR) xs k) k (by rw [cpyS_len _ _ _ (by omega)]; exact hkx) xs[k]
      rw [cpyS_set _ _ _ hkx, ← atEdge_eq xs k hkx] at hset
      have HS := Lib.hid hset
      clear hset hc cb h
      generalize hx : atEdge xs k = x at *
      clear hx
      go_wp2_with fail
      refine (toEdge_any x _).mono ?_
      rintro e w2 ⟨rfl, hb2⟩
      have ho2 := own_below ho hb2 (Nat.le_refl _)
      have hb3 := hb.trans (hb2.mono hb.size)
      have hf0 := ho2.frozenAt (k * 3)
      have hf1 := ho2.frozenAt (k * 3 + 1)
      have hf2 := ho2.frozenAt (k * 3 + 2)
      have hd : ∀ i, i < 3 → ∃ d, w2.cell? ⟨w.heap.size, k * 3 + i, none⟩ = some d := fun i hi => by
        rw [ho2.cellAt _ (by omega)]
        exact ⟨_, List.getElem?_eq_getElem (by rw [ho2.1]; omega)⟩
      obtain ⟨d0, hd0⟩ := hd 0 (by omega)
      obtain ⟨d1, hd1⟩ := hd 1 (by omega)
      obtain ⟨d2, hd2⟩ := hd 2 (by omega)
      simp only [Nat.add_zero] at hd0
      clear hd
      have s0 := (ho2.stored (k * 3) (.int .i64 x.fr)).1
      have s1 := (s0.stored (k * 3 + 1) (.int .i64 x.to)).1
      have s2 := (s1.stored (k * 3 + 2) (.int .i64 x.wt)).1
      clear ho2 s0 s1 ho
      go_wp2
      go_roundw
      case rel => exact ⟨k + 1, by omega, by go_num, by rw [← HS.out]; exact s2, (((hb3).setCell (p := ⟨w.heap.size, k * 3, none⟩) (Nat.le_refl _) _).setCell (p := ⟨w.heap.size, k * 3 + 1, none⟩) (Nat.le_refl _) _).setCell (p := ⟨w.heap.size, k * 3 + 2, none⟩) (Nat.le_refl _) _⟩
      case measure => simp [intOf]; omega
    · obtain rfl : k = n := by omega
      rw [← hL.out, cpyS_all, hL.out] at ho
      go_wp2
      go_ret
      exact ⟨_, rfl, OwnS.of ho hL.out (by omega), hb⟩
theorem take_succEdge {xs ys : List EdgeR} {k : Nat} (h : xs.take k = ys.take k) (h1 : k < xs.length) (h2 : k < ys.length) (he : atEdge xs k = atEdge ys k) : xs.take (k + 1) = ys.take (k + 1) := by
  rw [List.take_succ_eq_append_getElem h1, List.take_succ_eq_append_getElem h2, h]
  rw [atEdge_eq xs k h1, atEdge_eq ys k h2] at he
  rw [he]
set_option maxHeartbeats 3200000 in
theorem eqEdgeS_any (a b : Option Addr) (n cap m cap' : Nat) (xs ys : List EdgeR) (w : World) (h : Rd encEdge 3 w a n cap xs) (h' : Rd encEdge 3 w b m cap' ys) :
    Calls Tryd.prog 50 #[.slice a n cap, .slice b m cap'] w fun e w' => e = .returned (.bool (decide (xs = ys))) ∧ Below w.heap.size w w' := by
  have hL := Lib.hid h.len
  have hL' := Lib.hid h'.len
  have hm := h.max
  have hle := h.le
  have hm' := h'.max
  have hle' := h'.le
  unfold maxLen at hm hm'
  by_cases hnm : n = m
  · subst hnm
    go_enter Tryd.func50, Tryd.ntmps50
    go_wp2
    go_loopw [5] (fun i wr => ∃ k : Nat, k ≤ n ∧ i = .int .i64 k ∧ xs.take k = ys.take k ∧ Below w.heap.size w wr) (fun i _ => n - (intOf i).toNat)
    case atStart => exact ⟨0, Nat.zero_le _, rfl, rfl, Below.refl _ _⟩
    case round =>
      obtain ⟨k, hk, rfl, he, hb⟩ := hrel
      have HE := Lib.hid he
      clear he
      by_cases hlt : k < n
      · obtain ⟨b1, off1, rfl, hbl1, hc1⟩ := h.rowEdge (by omega)
        obtain ⟨b2, off2, rfl, hbl2, hc2⟩ := h'.rowEdge (by omega)
        obtain ⟨k0, k1, k2⟩ := hc1 k hlt
        obtain ⟨l0, l1, l2⟩ := hc2 k hlt
        have cb1 : ∀ o, wr.cell? ⟨b1, o, none⟩ = w.cell? ⟨b1, o, none⟩ := fun o => hb.cell (p := ⟨b1, o, none⟩) hbl1
        have cb2 : ∀ o, wr.cell? ⟨b2, o, none⟩ = w.cell? ⟨b2, o, none⟩ := fun o => hb.cell (p := ⟨b2, o, none⟩) hbl2
        rw [← cb1] at k0 k1 k2
        rw [← cb2] at l0 l1 l2
        clear hc1 hc2 h h' cb1 cb2
        have hi1 : (k : Int) < (n : Int) := by omega
        have m1 : b1 < wr.heap.size := Nat.lt_of_lt_of_le hbl1 hb.size
        have m2 : b2 < wr.heap.size := Nat.lt_of_lt_of_le hbl2 hb.size
        have HT := Lib.hid (fun he => take_succEdge HE.out (by rw [hL.out]; exact hlt) (by rw [hL'.out]; exact hlt) he)
        have HN : Hid (atEdge xs k ≠ atEdge ys k → ¬ xs = ys) := Lib.hid (fun hne e => hne (by rw [e]))
        generalize hx : atEdge xs k = x at *
        generalize hy : atEdge ys k = y at *
        clear hx hy
        go_wp2_with fail
        go_region_held3 (fun w' => w'.cell? ⟨b1, off1 + k * 3, none⟩ = some (.int .i64 x.fr) ∧ w'.cell? ⟨b1, off1 + k * 3 + 1, none⟩ = some (.int .i64 x.to) ∧ w'.cell? ⟨b1, off1 + k * 3 + 2, none⟩ = some (.int .i64 x.wt) ∧ w'.cell? ⟨b2, off2 + k * 3, none⟩ = some (.int .i64 y.fr) ∧ w'.cell? ⟨b2, off2 + k * 3 + 1, none⟩ = some (.int .i64 y.to) ∧ w'.cell? ⟨b2, off2 + k * 3 + 2, none⟩ = some (.int .i64 y.wt) ∧ Below wr.heap.size wr w') (first | exact keepd6 (by assumption) | exact keep6 (by assumption) (Nat.le_refl _) (by assumption) | exact ⟨k0, k1, k2, l0, l1, l2, (Below.refl _ _).drew⟩) (first | (go_at_call 69; refine (eqEdge_any x y _).mono ?_; rintro e wa ⟨rfl, hba⟩))
        have hb2 : Below wr.heap.size wr _ := tail6 (by assumption)
        have hb3 := hb.trans (hb2.mono hb.size)
        by_cases hxy : x = y
        · have HQ := Lib.hid (decide_eq_true hxy)
          have HT2 := Lib.hid (HT.out hxy)
          rw [HQ.out]
          clear hxy HT HN
          go_wp2
          go_roundw
          case rel => exact ⟨k + 1, by omega, by go_num, HT2.out, hb3⟩
          case measure => simp [intOf]; omega
        · have HQ := Lib.hid (decide_eq_false hxy)
          have HT2 := Lib.hid (decide_eq_false (HN.out hxy))
          rw [HQ.out]
          clear hxy HT HN
          go_wp2
          go_ret
          exact ⟨by rw [HT2.out]; rfl, hb3⟩
      · obtain rfl : k = n := by omega
        go_wp2
        go_ret
        refine ⟨?_, hb⟩
        have := HE.out
        rw [List.take_of_length_le (by rw [hL.out]; exact Nat.le_refl _), List.take_of_length_le (by rw [hL'.out]; exact Nat.le_refl _)] at this
        simp [this]
  · have hne : ¬ xs = ys := fun e => hnm (by rw [← hL.out, ← hL'.out, e])
    have hi1 : ((n : Int) != (m : Int)) = true := by simp; omega
    go_enter Tryd.func50, Tryd.ntmps50
    go_wp2
    go_ret
    exact ⟨by simp [hne], Below.refl _ _⟩
end Go.Proofs.YtgkgbpgnbnledaaDoor

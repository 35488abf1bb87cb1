/- Rows of the struct Rec: its cells, toX, eqX, toXS, eqXS, szXS of the statements. -/
import Derived.Test.YthffmjeodoinlaaTyRec
import Derived.Test.YthffmjeodoinlaaRowS
import Derived.Test.YthffmjeodoinlaaKeep
namespace Go.Proofs.Ythffmjeodoinlaa
open Go.RowKit
def atRec (xs : List RecR) (j : Nat) : RecR := xs.getD j ⟨0, 0, 0⟩
theorem atRec_eq (xs : List RecR) (j : Nat) (h : j < xs.length) : atRec xs j = xs[j] := by simp [atRec, List.getD, h]
theorem lenRec : ∀ x : RecR, (encRec x).length = 3 := fun _ => rfl
/-- The cells of a row, in the walk's own spelling. -/
theorem Rd.rowRec {w : World} {a : Option Addr} {n cap : Nat} {xs : List RecR} (h : Rd encRec 3 w a n cap xs) (hn : 0 < n) :
    ∃ b off, a = some ⟨b, off, none⟩ ∧ b < w.heap.size ∧ ∀ j, j < n → w.cell? ⟨b, off + j * 3, none⟩ = some (.int .i64 (atRec xs j).a) ∧ w.cell? ⟨b, off + j * 3 + 1, none⟩ = some (.int .i64 (atRec xs j).b) ∧ w.cell? ⟨b, off + j * 3 + 2, none⟩ = some (.int .i64 (atRec xs j).c) := by
  obtain ⟨b, off, ha, hl, hc⟩ := h.spot hn
  refine ⟨b, off, ha, hl, fun j hj => ?_⟩
  have hj' : j < xs.length := by rw [h.len]; exact hj
  rw [atRec_eq xs j hj']
  exact ⟨hc j hj' 0 (.int .i64 xs[j].a) rfl, hc j hj' 1 (.int .i64 xs[j].b) rfl, hc j hj' 2 (.int .i64 xs[j].c) rfl⟩
set_option maxHeartbeats 800000 in
theorem toRec_any (r : RecR) (w : World) : Calls Try.prog 38 #[.agg #[.int .i64 r.a, .int .i64 r.b, .int .i64 r.c]] w fun e w' => e = .returned (.agg #[.int .i64 r.a, .int .i64 r.b, .int .i64 r.c]) ∧ Below w.heap.size w w' := by
  have hb0 := ((Below.refl w.heap.size w).alloc (Nat.le_refl _) (.cells #[.int .i64 r.a, .int .i64 r.b, .int .i64 r.c] 64) |>.alloc (by simp) (.cells #[.int .i64 r.a, .int .i64 r.b, .int .i64 r.c] 41)).alloc (by simp; omega) (.cells #[.int .i64 r.a, .int .i64 r.b, .int .i64 r.c] 41)
  go_enter Try.func38, Try.ntmps38
  go_wp2
  refine bodyPost_ret (v := .agg #[.int .i64 r.a, .int .i64 r.b, .int .i64 r.c]) (by simp [results, Try.results38, go_sem]) rfl ?_
  exact ⟨rfl, hb0⟩
set_option maxHeartbeats 1600000 in
theorem eqRec_any (r s : RecR) (w : World) : Calls Try.prog 42 #[.agg #[.int .i64 r.a, .int .i64 r.b, .int .i64 r.c], .agg #[.int .i64 s.a, .int .i64 s.b, .int .i64 s.c]] w fun e w' => e = .returned (.bool (decide (r = s))) ∧ Below w.heap.size w w' := by
  have hb0 := ((Below.refl w.heap.size w).alloc (Nat.le_refl _) (.cells #[.int .i64 r.a, .int .i64 r.b, .int .i64 r.c] 41)).alloc (by simp) (.cells #[.int .i64 s.a, .int .i64 s.b, .int .i64 s.c] 41)
  obtain ⟨a0, a1, a2⟩ := r
  obtain ⟨b0, b1, b2⟩ := s
  simp only at *
  by_cases h : (⟨a0, a1, a2⟩ : RecR) = ⟨b0, b1, b2⟩
  · cases h
    go_enter Try.func42, Try.ntmps42
    go_wp2
    go_ret
    exact ⟨rfl, hb0⟩
  · have hh : ((a0 != b0) = true) ∨ (a0 = b0 ∧ (a1 != b1) = true) ∨ (a0 = b0 ∧ a1 = b1 ∧ (a2 != b2) = true) := by
      simp only [RecR.mk.injEq] at h
      simp only [bne_iff_ne, ne_eq]
      omega
    obtain ⟨q, hq, HD⟩ : ∃ q, q = false ∧ Hid (decide ((⟨a0, a1, a2⟩ : RecR) = ⟨b0, b1, b2⟩) = q) := ⟨_, decide_eq_false h, Lib.hid rfl⟩
    clear h
    rcases hh with h | ⟨rfl, h⟩ | ⟨rfl, rfl, h⟩ <;> (go_enter Try.func42, Try.ntmps42; go_wp2; go_ret; exact ⟨by rw [HD.out, hq]; rfl, hb0⟩)
theorem szRecS_any (a : Option Addr) (n cap : Nat) (left : Int) (w : World) (h1 : 0 ≤ left) (h2 : left ≤ 1048576) (hn : n ≤ 9223372036854775807) :
    Calls Try.prog 8 #[.slice a n cap, .int .i64 left] w fun e w' => e = .returned (.int .i64 (leftB left n)) ∧ Below w.heap.size w w' := by
  by_cases h : left < n
  · have HL := Lib.hid (leftB_no h)
    go_enter Try.func8, Try.ntmps8
    go_wp2
    go_ret
    exact ⟨by rw [HL.out]; rfl, Below.refl _ _⟩
  · have HL := Lib.hid (leftB_yes h)
    go_enter Try.func8, Try.ntmps8
    go_wp2
    go_ret
    exact ⟨by rw [HL.out]; rfl, Below.refl _ _⟩
theorem infoRec : (Try.prog.info? 41).map (fun i => (i.zero, i.size, i.bytes)) = some (some (.agg #[.int .i64 0, .int .i64 0, .int .i64 0]), 3, 24) := by kernel_rfl
set_option maxHeartbeats 1600000 in
theorem toRecS_any (a : Option Addr) (n cap : Nat) (xs : List RecR) (w : World) (h : Rd encRec 3 w a n cap xs) (hn : n ≤ 1048576) :
    Calls Try.prog 10 #[.slice a n cap] w fun e w' => ∃ g, e = .returned (.slice (some ⟨g, 0, none⟩) n n) ∧ OwnS encRec 3 41 w.heap.size w'.heap.size w' (some ⟨g, 0, none⟩) n n xs ∧ Below w.heap.size w w' := by
  obtain ⟨i0, hi, hz0, hz1, hz2⟩ := info_parts infoRec
  have hL := Lib.hid h.len
  have hm := h.max
  have hle := h.le
  unfold maxLen at hm
  go_enter Try.func10, Try.ntmps10
  go_wp2_with (at_make; refine wpList_make_full _ rfl _ _ 24 rfl w.heap.size 41 i0 (.agg #[.int .i64 0, .int .i64 0, .int .i64 0]) 3 Try.underlying24 hi hz0 hz1 _ _ _ _ n rfl rfl rfl rfl ?b1 ?b2 ?b3 ?_)
  case b1 => rw [hz2]; omega
  case b2 => unfold maxLen; omega
  case b3 => simp
  intro w1 hown hgrow
  have hbel := below_grown hgrow (Nat.le_refl _) (by simp)
  have hown1 : w1.ownsRow w.heap.size 41 3 (.slice (some ⟨w.heap.size, 0, none⟩) n n) n ((cpyS (⟨0, 0, 0⟩ : RecR) xs 0).flatMap encRec) := by
    have e := made_flat encRec (⟨0, 0, 0⟩ : RecR) (by decide) n 3 rfl
    unfold cpyS
    simp only [List.take_zero, List.nil_append, Nat.sub_zero, hL.out]
    rw [← e]
    exact hown
  clear hown hgrow hi hz0 hz1 hz2
  go_wp2
  go_loopw [4] (fun i wr => ∃ k : Nat, k ≤ n ∧ i = .int .i64 k ∧ wr.ownsRow w.heap.size 41 3 (.slice (some ⟨w.heap.size, 0, none⟩) n n) n ((cpyS (⟨0, 0, 0⟩ : RecR) xs k).flatMap encRec) ∧ Below w.heap.size w wr) (fun i _ => n - (intOf i).toNat)
  case atStart => exact ⟨0, Nat.zero_le _, rfl, hown1, hbel⟩
  case round =>
    obtain ⟨k, hk, rfl, ho, hb⟩ := hrel
    by_cases hlt : k < n
    · obtain ⟨b, off, rfl, hbl, hc⟩ := h.rowRec (by omega)
      obtain ⟨k0, k1, k2⟩ := hc k hlt
      have cb : ∀ o, wr.cell? ⟨b, o, none⟩ = w.cell? ⟨b, o, none⟩ := fun o => hb.cell (p := ⟨b, o, none⟩) hbl
      rw [← cb] at k0 k1 k2
      have hkx : k < xs.length := by rw [hL.out]; exact hlt
      have hset := flat_set encRec 3 lenRec (cpyS (⟨0, 0, 0⟩ : RecR) xs k) k (by rw [cpyS_len _ _ _ (by omega)]; exact hkx) xs[k]
      rw [cpyS_set _ _ _ hkx, ← atRec_eq xs k hkx] at hset
      have HS := Lib.hid hset
      clear hset hc cb h
      generalize hx : atRec xs k = x at *
      clear hx
      go_wp2_with fail
      refine (toRec_any x _).mono ?_
      rintro e w2 ⟨rfl, hb2⟩
      have ho2 := own_below ho hb2 (Nat.le_refl _)
      have hb3 := hb.trans (hb2.mono hb.size)
      have hf0 := ho2.frozenAt (k * 3)
      have hf1 := ho2.frozenAt (k * 3 + 1)
      have hf2 := ho2.frozenAt (k * 3 + 2)
      have hd : ∀ i, i < 3 → ∃ d, w2.cell? ⟨w.heap.size, k * 3 + i, none⟩ = some d := fun i hi => by
        rw [ho2.cellAt _ (by omega)]
        exact ⟨_, List.getElem?_eq_getElem (by rw [ho2.1]; omega)⟩
      obtain ⟨d0, hd0⟩ := hd 0 (by omega)
      obtain ⟨d1, hd1⟩ := hd 1 (by omega)
      obtain ⟨d2, hd2⟩ := hd 2 (by omega)
      simp only [Nat.add_zero] at hd0
      clear hd
      have s0 := (ho2.stored (k * 3) (.int .i64 x.a)).1
      have s1 := (s0.stored (k * 3 + 1) (.int .i64 x.b)).1
      have s2 := (s1.stored (k * 3 + 2) (.int .i64 x.c)).1
      clear ho2 s0 s1 ho
      go_wp2
      go_roundw
      case rel => exact ⟨k + 1, by omega, by go_num, by rw [← HS.out]; exact s2, (((hb3).setCell (p := ⟨w.heap.size, k * 3, none⟩) (Nat.le_refl _) _).setCell (p := ⟨w.heap.size, k * 3 + 1, none⟩) (Nat.le_refl _) _).setCell (p := ⟨w.heap.size, k * 3 + 2, none⟩) (Nat.le_refl _) _⟩
      case measure => simp [intOf]; omega
    · obtain rfl : k = n := by omega
      rw [← hL.out, cpyS_all, hL.out] at ho
      go_wp2
      go_ret
      exact ⟨_, rfl, OwnS.of ho hL.out (by omega), hb⟩
theorem take_succRec {xs ys : List RecR} {k : Nat} (h : xs.take k = ys.take k) (h1 : k < xs.length) (h2 : k < ys.length) (he : atRec xs k = atRec ys k) : xs.take (k + 1) = ys.take (k + 1) := by
  rw [List.take_succ_eq_append_getElem h1, List.take_succ_eq_append_getElem h2, h]
  rw [atRec_eq xs k h1, atRec_eq ys k h2] at he
  rw [he]
set_option maxHeartbeats 3200000 in
theorem eqRecS_any (a b : Option Addr) (n cap m cap' : Nat) (xs ys : List RecR) (w : World) (h : Rd encRec 3 w a n cap xs) (h' : Rd encRec 3 w b m cap' ys) :
    Calls Try.prog 12 #[.slice a n cap, .slice b m cap'] w fun e w' => e = .returned (.bool (decide (xs = ys))) ∧ Below w.heap.size w w' := by
  have hL := Lib.hid h.len
  have hL' := Lib.hid h'.len
  have hm := h.max
  have hle := h.le
  have hm' := h'.max
  have hle' := h'.le
  unfold maxLen at hm hm'
  by_cases hnm : n = m
  · subst hnm
    go_enter Try.func12, Try.ntmps12
    go_wp2
    go_loopw [5] (fun i wr => ∃ k : Nat, k ≤ n ∧ i = .int .i64 k ∧ xs.take k = ys.take k ∧ Below w.heap.size w wr) (fun i _ => n - (intOf i).toNat)
    case atStart => exact ⟨0, Nat.zero_le _, rfl, rfl, Below.refl _ _⟩
    case round =>
      obtain ⟨k, hk, rfl, he, hb⟩ := hrel
      have HE := Lib.hid he
      clear he
      by_cases hlt : k < n
      · obtain ⟨b1, off1, rfl, hbl1, hc1⟩ := h.rowRec (by omega)
        obtain ⟨b2, off2, rfl, hbl2, hc2⟩ := h'.rowRec (by omega)
        obtain ⟨k0, k1, k2⟩ := hc1 k hlt
        obtain ⟨l0, l1, l2⟩ := hc2 k hlt
        have cb1 : ∀ o, wr.cell? ⟨b1, o, none⟩ = w.cell? ⟨b1, o, none⟩ := fun o => hb.cell (p := ⟨b1, o, none⟩) hbl1
        have cb2 : ∀ o, wr.cell? ⟨b2, o, none⟩ = w.cell? ⟨b2, o, none⟩ := fun o => hb.cell (p := ⟨b2, o, none⟩) hbl2
        rw [← cb1] at k0 k1 k2
        rw [← cb2] at l0 l1 l2
        clear hc1 hc2 h h' cb1 cb2
        have hi1 : (k : Int) < (n : Int) := by omega
        have m1 : b1 < wr.heap.size := Nat.lt_of_lt_of_le hbl1 hb.size
        have m2 : b2 < wr.heap.size := Nat.lt_of_lt_of_le hbl2 hb.size
        have HT := Lib.hid (fun he => take_succRec HE.out (by rw [hL.out]; exact hlt) (by rw [hL'.out]; exact hlt) he)
        have HN : Hid (atRec xs k ≠ atRec ys k → ¬ xs = ys) := Lib.hid (fun hne e => hne (by rw [e]))
        generalize hx : atRec xs k = x at *
        generalize hy : atRec ys k = y at *
        clear hx hy
        go_wp2_with fail
        go_region_held3 (fun w' => w'.cell? ⟨b1, off1 + k * 3, none⟩ = some (.int .i64 x.a) ∧ w'.cell? ⟨b1, off1 + k * 3 + 1, none⟩ = some (.int .i64 x.b) ∧ w'.cell? ⟨b1, off1 + k * 3 + 2, none⟩ = some (.int .i64 x.c) ∧ w'.cell? ⟨b2, off2 + k * 3, none⟩ = some (.int .i64 y.a) ∧ w'.cell? ⟨b2, off2 + k * 3 + 1, none⟩ = some (.int .i64 y.b) ∧ w'.cell? ⟨b2, off2 + k * 3 + 2, none⟩ = some (.int .i64 y.c) ∧ Below wr.heap.size wr w') (first | exact keepd6 (by assumption) | exact keep6 (by assumption) (Nat.le_refl _) (by assumption) | exact ⟨k0, k1, k2, l0, l1, l2, (Below.refl _ _).drew⟩) (first | (go_at_call 42; refine (eqRec_any x y _).mono ?_; rintro e wa ⟨rfl, hba⟩))
        have hb2 : Below wr.heap.size wr _ := tail6 (by assumption)
        have hb3 := hb.trans (hb2.mono hb.size)
        by_cases hxy : x = y
        · have HQ := Lib.hid (decide_eq_true hxy)
          have HT2 := Lib.hid (HT.out hxy)
          rw [HQ.out]
          clear hxy HT HN
          go_wp2
          go_roundw
          case rel => exact ⟨k + 1, by omega, by go_num, HT2.out, hb3⟩
          case measure => simp [intOf]; omega
        · have HQ := Lib.hid (decide_eq_false hxy)
          have HT2 := Lib.hid (decide_eq_false (HN.out hxy))
          rw [HQ.out]
          clear hxy HT HN
          go_wp2
          go_ret
          exact ⟨by rw [HT2.out]; rfl, hb3⟩
      · obtain rfl : k = n := by omega
        go_wp2
        go_ret
        refine ⟨?_, hb⟩
        have := HE.out
        rw [List.take_of_length_le (by rw [hL.out]; exact Nat.le_refl _), List.take_of_length_le (by rw [hL'.out]; exact Nat.le_refl _)] at this
        simp [this]
  · have hne : ¬ xs = ys := fun e => hnm (by rw [← hL.out, ← hL'.out, e])
    have hi1 : ((n : Int) != (m : Int)) = true := by simp; omega
    go_enter Try.func12, Try.ntmps12
    go_wp2
    go_ret
    exact ⟨by simp [hne], Below.refl _ _⟩
end Go.Proofs.Ythffmjeodoinlaa

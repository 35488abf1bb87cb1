/- FnSort: the walk of the law. -/
import Derived.Test.YthffmjeodoinlaaMergeS
import Derived.Test.YthffmjeodoinlaaSortAll
import Derived.Test.YthffmjeodoinlaaDrawR
namespace Go.Proofs.Ythffmjeodoinlaa
open Go.RowKit
theorem sortB_ordL (l : List RecR) (h : OrdL l) : sortB l = true := by
  unfold sortB sortP
  rw [List.all_eq_true]
  intro i hi
  rw [List.mem_range] at hi
  by_cases h0 : i = 0
  · simp [h0]
  · have := (List.pairwise_iff_getElem.1 h) (i - 1) i (by omega) hi (by omega)
    rw [atRec_eq l i hi, atRec_eq l (i - 1) (by omega)]
    simp only [Bool.not_eq_true'] at this
    simp [this]
theorem recEq {x y : RecR} (h1 : x.a = y.a) (h2 : x.b = y.b) (h3 : x.c = y.c) : x = y := by
  cases x
  cases y
  simp only [RecR.mk.injEq]
  exact ⟨h1, h2, h3⟩
/-- How often x stands among the first k. -/
def cntR (x : RecR) (l : List RecR) (k : Nat) : Nat := (l.take k).count x
theorem cntR_le (x : RecR) (l : List RecR) (k : Nat) : cntR x l k ≤ k := by
  unfold cntR
  exact Nat.le_trans List.count_le_length (by rw [List.length_take]; omega)
theorem cntR_yes {x : RecR} {l : List RecR} {k : Nat} (h : k < l.length) (e : atRec l k = x) : cntR x l (k + 1) = cntR x l k + 1 := by
  unfold cntR
  rw [List.take_succ_eq_append_getElem h, List.count_append, ← atRec_eq l k h, e]
  simp
theorem cntR_no {x : RecR} {l : List RecR} {k : Nat} (h : k < l.length) (e : x ≠ atRec l k) : cntR x l (k + 1) = cntR x l k := by
  unfold cntR
  rw [List.take_succ_eq_append_getElem h, List.count_append, ← atRec_eq l k h, List.count_singleton]
  have e2 : ¬ atRec l k = x := fun h => e h.symm
  simp [e2]
theorem cntR_all (x : RecR) (l : List RecR) : cntR x (sortL l) l.length = cntR x l l.length := by
  unfold cntR
  rw [List.take_of_length_le (by rw [len_sortL]; exact Nat.le_refl _), List.take_of_length_le (Nat.le_refl _)]
  exact (perm_sortL l).count_eq x
set_option maxRecDepth 100000 in
set_option maxHeartbeats 6400000 in
theorem walk_FnSort (a : Option Addr) (n cap : Nat) (zs : List Int) (w : World) (h : Rd (encI .u8) 1 w a n cap zs) :
    Calls Try.prog 6 #[.slice a n cap] w fun e w' => e = .returned (.bool true) ∧ Below w.heap.size w w' := by
  have hle := h.le
  have hmx := h.max
  unfold maxLen at hmx
  by_cases hn : n ≤ 1048576
  · go_enter Try.func6, Try.ntmps6
    go_wp2_with fail
    refine (makeRecs_any a n cap zs _ h hn).mono ?_
    rintro e w1 ⟨l, rfl, hol, hl, hb1⟩
    have H1 := h.below hb1 (Nat.le_refl _)
    go_wp2_with fail
    refine (makeNum_any a n cap zs 6 _ H1 (by omega) hn).mono ?_
    rintro e w2 ⟨x, rfl, hx0, _, hx1, hb2⟩
    have hx2 := hx1 (by omega)
    clear hx1
    simp only
    have ol2 := hol.below hb2
    have hal := sortAll_impl_k l l.l rfl (1 + x) w2 ol2.rd (by show l.n ≤ 1048576; omega) (by unfold In64; omega)
    rw [sortAll_eq _ _ (by omega)] at hal
    go_wp2_with fail
    refine hal.mono ?_
    rintro e w3 ⟨p, rfl, hdp, op, kp, hb3⟩
    have ol3 := ol2.below hb3
    go_wp2_with fail
    refine (sortOne_impl_k l l.l rfl w3 ol3.rd (by show l.n ≤ 1048576; omega)).mono ?_
    rintro e w4 ⟨q, rfl, hdq, oq, kq, hb4⟩
    have op4 := op.below hb4
    have ol4 := ol3.below hb4
    have HB4 := Lib.hid ((((hb1.trans (hb2.mono hb1.size)).trans (hb3.mono (by have := hb2.size; have := hb1.size; omega))).trans (hb4.mono (by have := hb3.size; have := hb2.size; have := hb1.size; omega))))
    obtain ⟨la, ln, lc, L⟩ := l
    obtain ⟨pa, pn, pc, P⟩ := p
    obtain ⟨qa, qn, qc, Q⟩ := q
    have hpn : pn = ln := by have h1 := op4.row.len; have h2 := ol4.row.len; simp only at h1 h2; rw [← h1, ← h2]; exact (show P = sortL L from hdp) ▸ len_sortL L
    have hqn : qn = ln := by have h1 := oq.row.len; have h2 := ol4.row.len; simp only at h1 h2; rw [← h1, ← h2]; exact (show Q = sortL L from hdq) ▸ len_sortL L
    obtain rfl : P = sortL L := hdp
    obtain rfl : Q = sortL L := hdq
    subst hpn
    subst hqn
    simp only at *
    have hsp := fun w g => sorted_impl_k (⟨pa, qn, pc, sortL L⟩ : Row RecR) (sortL L) rfl w g
    have hsq := fun w g => sorted_impl_k (⟨qa, qn, qc, sortL L⟩ : Row RecR) (sortL L) rfl w g
    rw [sortB_ordL _ (ord_sortL L)] at hsp hsq
    have rp := op4.rd
    have rq := oq.rd
    have rl := ol4.rd
    clear op ol2 ol3 hol hal kp kq
    go_wp2_with fail
    refine (hsp _ rp).mono ?_
    rintro e w5 ⟨rfl, hb5⟩
    go_wp2_with fail
    refine (hsq _ (rdRecS_below rq hb5 (Nat.le_refl _))).mono ?_
    rintro e w6 ⟨rfl, hb6⟩
    have hb46 := hb5.trans (hb6.mono hb5.size)
    have RP := Lib.hid (rdRecS_below rp hb46 (Nat.le_refl _))
    have RQ := Lib.hid (rdRecS_below rq hb46 (Nat.le_refl _))
    have RL := Lib.hid (rdRecS_below rl hb46 (Nat.le_refl _))
    have HB6 := Lib.hid (HB4.out.trans (hb46.mono HB4.out.size))
    clear rp rq rl hsp hsq
    have hpl := RP.out.le
    have hpm := RP.out.max
    have hqn : qn ≤ 16 := hl
    go_wp2
    go_loopw [50] (fun i wr => ∃ k : Nat, k ≤ qn ∧ i = .int .i64 k ∧ Below w6.heap.size w6 wr) (fun i _ => qn - (intOf i).toNat)
    case atStart => exact ⟨0, Nat.zero_le _, rfl, Below.refl _ _⟩
    case round =>
      obtain ⟨N, hk, rfl, hb⟩ := hrel
      by_cases hlt : N < qn
      · obtain ⟨b1, off1, rfl, hbl1, hc1⟩ := RP.out.rowRec (by show 0 < qn; omega)
        obtain ⟨b2, off2, rfl, hbl2, hc2⟩ := RQ.out.rowRec (by show 0 < qn; omega)
        obtain ⟨k0, k1, k2⟩ := hc1 N hlt
        obtain ⟨l0, l1, l2⟩ := hc2 N hlt
        replace k0 := cell_later hb k0
        replace k1 := cell_later hb k1
        replace k2 := cell_later hb k2
        replace l0 := cell_later hb l0
        replace l1 := cell_later hb l1
        replace l2 := cell_later hb l2
        clear hc1 hc2
        have hi1 : (N : Int) < (qn : Int) := by omega
        generalize atRec (sortL L) N = x at *
        go_wp2_with fail
        go_quiet (fail)
        generalize hwd : wr.drewN _ = wd
        have hbd : Below wr.heap.size wr wd := by rw [← hwd]; exact ⟨rfl, rfl, rfl, Nat.le_refl _, fun _ _ => rfl⟩
        have hb' := hb.trans (hbd.mono hb.size)
        clear k0 k1 k2 l0 l1 l2 hwd
        go_wp2
        go_roundw
        case rel => exact ⟨N + 1, by omega, by go_num, hb'⟩
        case measure => simp [intOf]; omega
      · obtain rfl : N = qn := by omega
        have hb7 := Lib.hid (HB6.out.trans (hb.mono HB6.out.size))
        have RL7 := Lib.hid (rdRecS_below RL.out hb (Nat.le_refl _))
        have RP7 := Lib.hid (rdRecS_below RP.out hb (Nat.le_refl _))
        clear RL RP RQ HB6 hb
        rename World => w7
        go_wp2
        go_loopw [65] (fun i wr => ∃ i' : Nat, i' ≤ N ∧ i = .int .i64 i' ∧ Below w7.heap.size w7 wr) (fun i _ => N - (intOf i).toNat)
        case atStart => exact ⟨0, Nat.zero_le _, rfl, Below.refl _ _⟩
        case round =>
          obtain ⟨i, hi, rfl, hbi⟩ := hrel
          by_cases hiN : i < N
          · obtain ⟨b0, off0, rfl, hbl0, hc0⟩ := RL7.out.rowRec (by show 0 < N; omega)
            obtain ⟨m0, m1, m2⟩ := hc0 i hiN
            replace m0 := cell_later hbi m0
            replace m1 := cell_later hbi m1
            replace m2 := cell_later hbi m2
            clear hc0
            have hii : (i : Int) < (N : Int) := by omega
            generalize atRec L i = x at *
            obtain ⟨wo, hwo⟩ : ∃ wo, wo = wr := ⟨_, rfl⟩
            subst hwo
            obtain ⟨wb, hwb⟩ : ∃ wb, wo.alloc (.cells #[.int .i64 x.a, .int .i64 x.b, .int .i64 x.c] 41) = wb := ⟨_, rfl⟩
            have haB : Below wo.heap.size wo wb := by rw [← hwb]; exact (Below.refl _ _).alloc (Nat.le_refl _) _
            have hbB := hbi.trans (haB.mono hbi.size)
            have X0 : wb.cell? ⟨wo.heap.size, 0, none⟩ = some (.int .i64 x.a) := by rw [← hwb]; simp [go_sem]
            have X1 : wb.cell? ⟨wo.heap.size, 1, none⟩ = some (.int .i64 x.b) := by rw [← hwb]; simp [go_sem]
            have X2 : wb.cell? ⟨wo.heap.size, 2, none⟩ = some (.int .i64 x.c) := by rw [← hwb]; simp [go_sem]
            have HWB := Lib.hid hwb
            clear hwb
            go_wp2
            rw [HWB.out]
            clear HWB m0 m1 m2
            go_loopw [9, 71] (fun c j wq => ∃ k : Nat, k ≤ N ∧ j = .int .i64 k ∧ c = .int .i64 ((cntR x L k : Nat)) ∧ Below wb.heap.size wb wq) (fun _ j _ => N - (intOf j).toNat)
            case atStart => exact ⟨0, Nat.zero_le _, rfl, by congr 1, Below.refl _ _⟩
            case round =>
              obtain ⟨k, hk, rfl, rfl, hbk⟩ := hrel
              have Y0 := cell_later hbk X0
              have Y1 := cell_later hbk X1
              have Y2 := cell_later hbk X2
              by_cases hlt : k < N
              · obtain ⟨b1, off1, hA1, hbl1, hc1⟩ := RL7.out.rowRec (by show 0 < N; omega)
                dsimp only at hA1
                cases hA1
                obtain ⟨k0, k1, k2⟩ := hc1 k hlt
                replace k0 := cell_later (hbB.trans (hbk.mono hbB.size)) k0
                replace k1 := cell_later (hbB.trans (hbk.mono hbB.size)) k1
                replace k2 := cell_later (hbB.trans (hbk.mono hbB.size)) k2
                clear hc1
                have hi1 : (k : Int) < (N : Int) := by omega
                have hcl := cntR_le x (L) k
                have hcl2 := cntR_le x L N
                have HLK : Hid (k < (L).length) := Lib.hid (by have := ol4.row.len; simp only at this; omega)
                have HY := Lib.hid (fun e => cntR_yes (x := x) HLK.out e)
                have HNo := Lib.hid (fun e => cntR_no (x := x) HLK.out e)
                generalize atRec (L) k = y at *
                have hal : Below wb.heap.size wb (wr.alloc (.cells #[.int .i64 y.a, .int .i64 y.b, .int .i64 y.c] 41)) := hbk.alloc hbk.size _
                have hxl := World.block_lt_of_cell? _ _ Y0
                simp only at hxl
                by_cases hxy : x = y
                · subst hxy
                  have HC := Lib.hid (HY.out rfl)
                  clear HY HNo
                  go_wp2
                  go_roundw
                  case rel => exact ⟨k + 1, by omega, by go_num, by rw [HC.out]; go_num, hal⟩
                  case measure => simp [intOf]; omega
                · have HC := Lib.hid (HNo.out hxy)
                  clear HY HNo
                  obtain ⟨ya, yb, yc⟩ := y
                  simp only at *
                  by_cases h1 : x.a = ya
                  · subst h1
                    by_cases h2 : x.b = yb
                    · subst h2
                      by_cases h3 : x.c = yc
                      · subst h3
                        exact absurd rfl hxy
                      · skip
                        go_wp2
                        go_roundw
                        case rel => exact ⟨k + 1, by omega, by go_num, by rw [HC.out], hal⟩
                        case measure => simp [intOf]; omega
                    · skip
                      go_wp2
                      go_roundw
                      case rel => exact ⟨k + 1, by omega, by go_num, by rw [HC.out], hal⟩
                      case measure => simp [intOf]; omega
                  · skip
                    go_wp2
                    go_roundw
                    case rel => exact ⟨k + 1, by omega, by go_num, by rw [HC.out], hal⟩
                    case measure => simp [intOf]; omega
              · have hkN : N = k := by omega
                subst hkN
                have hbk0 := hbk
                clear Y0 Y1 Y2
                go_wp2
                go_loopw [9, 83] (fun c j wq => ∃ k : Nat, k ≤ N ∧ j = .int .i64 k ∧ c = .int .i64 ((cntR x L N : Int) - (cntR x (sortL L) k : Nat)) ∧ Below wb.heap.size wb wq) (fun _ j _ => N - (intOf j).toNat)
                case atStart => exact ⟨0, Nat.zero_le _, rfl, by unfold cntR; simp, hbk0⟩
                case round =>
                  obtain ⟨k, hk, rfl, rfl, hbk⟩ := hrel
                  have Y0 := cell_later hbk X0
                  have Y1 := cell_later hbk X1
                  have Y2 := cell_later hbk X2
                  by_cases hlt : k < N
                  · obtain ⟨b1, off1, hA1, hbl1, hc1⟩ := RP7.out.rowRec (by show 0 < N; omega)
                    dsimp only at hA1
                    cases hA1
                    obtain ⟨k0, k1, k2⟩ := hc1 k hlt
                    replace k0 := cell_later (hbB.trans (hbk.mono hbB.size)) k0
                    replace k1 := cell_later (hbB.trans (hbk.mono hbB.size)) k1
                    replace k2 := cell_later (hbB.trans (hbk.mono hbB.size)) k2
                    clear hc1
                    have hi1 : (k : Int) < (N : Int) := by omega
                    have hcl := cntR_le x (sortL L) k
                    have hcl2 := cntR_le x L N
                    have HLK : Hid (k < (sortL L).length) := Lib.hid (by have := ol4.row.len; simp only at this; rw [len_sortL]; omega)
                    have HY := Lib.hid (fun e => cntR_yes (x := x) HLK.out e)
                    have HNo := Lib.hid (fun e => cntR_no (x := x) HLK.out e)
                    generalize atRec (sortL L) k = y at *
                    have hal : Below wb.heap.size wb (wr.alloc (.cells #[.int .i64 y.a, .int .i64 y.b, .int .i64 y.c] 41)) := hbk.alloc hbk.size _
                    have hxl := World.block_lt_of_cell? _ _ Y0
                    simp only at hxl
                    by_cases hxy : x = y
                    · subst hxy
                      have HC := Lib.hid (HY.out rfl)
                      clear HY HNo
                      go_wp2
                      go_roundw
                      case rel => exact ⟨k + 1, by omega, by go_num, by rw [HC.out]; go_num, hal⟩
                      case measure => simp [intOf]; omega
                    · have HC := Lib.hid (HNo.out hxy)
                      clear HY HNo
                      obtain ⟨ya, yb, yc⟩ := y
                      simp only at *
                      by_cases h1 : x.a = ya
                      · subst h1
                        by_cases h2 : x.b = yb
                        · subst h2
                          by_cases h3 : x.c = yc
                          · subst h3
                            exact absurd rfl hxy
                          · skip
                            go_wp2
                            go_roundw
                            case rel => exact ⟨k + 1, by omega, by go_num, by rw [HC.out], hal⟩
                            case measure => simp [intOf]; omega
                        · skip
                          go_wp2
                          go_roundw
                          case rel => exact ⟨k + 1, by omega, by go_num, by rw [HC.out], hal⟩
                          case measure => simp [intOf]; omega
                      · skip
                        go_wp2
                        go_roundw
                        case rel => exact ⟨k + 1, by omega, by go_num, by rw [HC.out], hal⟩
                        case measure => simp [intOf]; omega
                  · have hkN : N = k := by omega
                    subst hkN
                    have HE : Hid ((cntR x L N : Int) - (cntR x (sortL L) N : Nat) = 0) := Lib.hid (by
                      have h1 := ol4.row.len
                      simp only at h1
                      have := cntR_all x L
                      rw [h1] at this
                      omega)
                    have hdone := hbi.trans ((haB.trans (hbk.mono haB.size)).mono hbi.size)
                    rw [HE.out]
                    go_wp2
                    go_roundw
                    case rel => exact ⟨i + 1, by omega, by go_num, hdone⟩
                    case measure => simp [intOf]; omega
          · obtain rfl : i = N := by omega
            go_wp2
            go_ret
            exact ⟨rfl, hb7.out.trans (hbi.mono hb7.out.size)⟩
  · have hni : ¬ (n : Int) ≤ 1048576 := by omega
    go_enter Try.func6, Try.ntmps6
    go_wp2
    go_ret
    exact ⟨rfl, Below.refl _ _⟩
end Go.Proofs.Ythffmjeodoinlaa

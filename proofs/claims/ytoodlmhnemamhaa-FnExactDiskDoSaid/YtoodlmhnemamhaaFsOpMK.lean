/- Marks on a row of FsOp, and whether they are held. -/
import Derived.Test.YtoodlmhnemamhaaFsOpSK
import Derived.Test.YtoodlmhnemamhaaFsOpK
import Derived.Test.YtoodlmhnemamhaaNestM
import Derived.Test.YtoodlmhnemamhaaStrS
import Derived.Test.YtoodlmhnemamhaaDiskP
import Derived.Test.YtoodlmhnemamhaaDiskS
namespace Go.Proofs.Ytoodlmhnemamhaa
open Go.RowKit
def stepFsOp (x : FsOpR) : Nat := 3 + cntFsOp x
def preCFsOp (xs : List FsOpR) (j : Nat) : Nat := ((xs.take j).map stepFsOp).sum
theorem preCFsOp_succ (xs : List FsOpR) (j : Nat) (h : j < xs.length) : preCFsOp xs (j + 1) = preCFsOp xs j + stepFsOp (atFsOp xs j) := by
  unfold preCFsOp
  rw [List.take_succ_eq_append_getElem h, atFsOp_eq xs j h, List.map_append, List.sum_append]
  simp only [List.map_cons, List.map_nil, List.sum_cons, List.sum_nil, Nat.add_zero]
theorem preCFsOp_bd (xs : List FsOpR) (j : Nat) : preCFsOp xs j ≤ 1000 * (j + preFsOp xs j) := by
  induction j with
  | zero => simp [preCFsOp]
  | succ j ih =>
    by_cases h : j < xs.length
    · rw [preCFsOp_succ xs j h, preFsOp_succ xs j h]
      have := cntFsOp_le (y := atFsOp xs j) (b := bulkFsOp (atFsOp xs j)) (Nat.le_refl _)
      unfold stepFsOp
      omega
    · have e1 : preCFsOp xs (j + 1) = preCFsOp xs j := by unfold preCFsOp; rw [List.take_of_length_le (by omega), List.take_of_length_le (show xs.length ≤ j by omega)]
      have e2 : preFsOp xs (j + 1) = preFsOp xs j := by unfold preFsOp; rw [List.take_of_length_le (by omega), List.take_of_length_le (show xs.length ≤ j by omega)]
      rw [e1, e2]
      omega
def cntFsOpS (y : Row FsOpR) : Nat := preCFsOp y.l y.l.length
theorem cntFsOpS_le {y : Row FsOpR} {b : Nat} (hl : y.l.length = y.n) (h : bulkFsOpS y ≤ b) : cntFsOpS y ≤ 1000 * b := by
  unfold bulkFsOpS at h
  unfold cntFsOpS
  have := preCFsOp_bd y.l y.l.length
  omega
theorem cntFsOpS_own {lo hi : Nat} {w : World} {y : Row FsOpR} {b : Nat} (h : OwnFsOpS lo hi w y) (hb : bulkFsOpS y ≤ b) : cntFsOpS y ≤ 1000 * b := cntFsOpS_le h.nest.row.len hb
def markedFsOp (k : Int) (x : FsOpR) : FsOpR := ⟨k, mtext (k + 1), mtext (k + 2), x.dataA, x.dataN, x.dataC, mks by8 (k + 3) x.dataN⟩
/-- After j of the marks. -/
def stLFsOp (k : Int) (xs : List FsOpR) (j : Nat) : List FsOpR := (List.range xs.length).map fun i => if i < j then markedFsOp (k + (preCFsOp xs i : Int)) (atFsOp xs i) else atFsOp xs i
theorem stLFsOp_len (k : Int) (xs : List FsOpR) (j : Nat) : (stLFsOp k xs j).length = xs.length := by simp [stLFsOp]
theorem stLFsOp_get (k : Int) (xs : List FsOpR) (j i : Nat) (h : i < (stLFsOp k xs j).length) : (stLFsOp k xs j)[i] = if i < j then markedFsOp (k + (preCFsOp xs i : Int)) (atFsOp xs i) else atFsOp xs i := by simp [stLFsOp]
theorem stLFsOp_zero (k : Int) (xs : List FsOpR) : stLFsOp k xs 0 = xs := by
  apply List.ext_getElem
  · rw [stLFsOp_len]
  · intro i h1 h2
    rw [stLFsOp_get, if_neg (by omega), atFsOp_eq xs i h2]
theorem stLFsOp_set (k : Int) (xs : List FsOpR) (j : Nat) (_h : j < xs.length) : (stLFsOp k xs j).set j (markedFsOp (k + (preCFsOp xs j : Int)) (atFsOp xs j)) = stLFsOp k xs (j + 1) := by
  apply List.ext_getElem
  · rw [List.length_set, stLFsOp_len, stLFsOp_len]
  · intro i h1 h2
    rw [List.getElem_set, stLFsOp_get _ _ _ _ h2]
    by_cases hji : j = i
    · subst hji; rw [if_pos rfl, if_pos (by omega)]
    · rw [if_neg hji, stLFsOp_get]
      by_cases hi : i < j
      · rw [if_pos hi, if_pos (by omega)]
      · rw [if_neg hi, if_neg (by omega)]
def HeldFsOpS (k : Int) (w : World) (y : Row FsOpR) : Prop := (bulkFsOpS y ≤ 2097152 ∧ y.l.length = y.n) ∧ RdN encFsOp 4 (encI .u8) 1 slFsOp w ⟨y.a, y.n, y.c, stLFsOp k y.l y.l.length⟩
theorem HeldFsOpS.below {k : Int} {w w' : World} {y : Row FsOpR} (h : HeldFsOpS k w y) (hb : Below w.heap.size w w') : HeldFsOpS k w' y := ⟨h.1, h.2.below hb (Nat.le_refl _)⟩
set_option maxHeartbeats 6400000 in
theorem markFsOpS_o (y : Row FsOpR) (k : Int) (lo hi : Nat) (w : World) (h : OwnFsOpS lo hi w y) (hn : bulkFsOpS y ≤ 2097152) (hk0 : 0 ≤ k) (hk1 : k ≤ 1152921504606846976) :
    Calls Try.prog 43 #[.slice y.a y.n y.c, .int .i64 k] w fun e w' => e = .returned (.int .i64 (k + cntFsOpS y)) ∧ OwnFsOpS lo hi w' ⟨y.a, y.n, y.c, stLFsOp k y.l y.l.length⟩ ∧ Win lo hi w w' := by
  obtain ⟨a, n, c, xs⟩ := y
  obtain ⟨hN0⟩ := h
  have hL := Lib.hid hN0.row.len
  simp only at hL ⊢
  have HBK := Lib.hid hn
  have hn2 : n + preFsOp xs n ≤ 2097152 := by unfold bulkFsOpS at hn; simp only at hn; rw [hL.out] at hn; exact hn
  have hcb := preCFsOp_bd xs n
  have HCN : Hid (cntFsOpS ⟨a, n, c, xs⟩ = preCFsOp xs n) := Lib.hid (by unfold cntFsOpS; simp only; rw [hL.out])
  rw [← stLFsOp_zero k xs] at hN0
  clear hn
  go_enter Try.func43, Try.ntmps43
  go_wp2
  go_loopw [1, 5] (fun q i wr => ∃ j : Nat, j ≤ n ∧ i = .int .i64 j ∧ q = .int .i64 (k + (preCFsOp xs j : Int)) ∧ OwnN encFsOp 4 27 (encI .u8) 1 5 slFsOp lo hi wr ⟨a, n, c, stLFsOp k xs j⟩ ∧ Win lo hi w wr) (fun _ i _ => n - (intOf i).toNat)
  case atStart => exact ⟨0, Nat.zero_le _, rfl, by unfold preCFsOp; simp, hN0, Win.refl _ _ _⟩
  case round =>
    obtain ⟨j, hj, rfl, rfl, hN, hb⟩ := hrel
    clear hN0
    by_cases hlt : j < n
    · obtain ⟨g, hga⟩ := own_some hN.row.own (by simp only; omega)
      simp only at hga
      subst hga
      have hg1 := (World.ownsRow.lt hN.row.own g rfl).1
      have hg2 := hN.row.lt g rfl
      have hjx : j < xs.length := by rw [hL.out]; exact hlt
      have hjl : j < (stLFsOp k xs j).length := by rw [stLFsOp_len]; exact hjx
      have hget : (stLFsOp k xs j)[j]'hjl = atFsOp xs j := by rw [stLFsOp_get, if_neg (by omega)]
      obtain ⟨b', off', hbo, _, hc⟩ := (hN.row.rd lenFsOp).rowFsOp (by simp only; omega)
      simp only [Option.some.injEq, Addr.mk.injEq, and_true] at hbo
      obtain ⟨rfl, rfl⟩ := hbo
      obtain ⟨k0, k1, k2, k3⟩ := hc j hlt
      rw [atFsOp_eq _ j hjl, hget] at k0 k1 k2 k3
      simp only [Nat.zero_add] at k0 k1 k2 k3
      have hps := preCFsOp_succ xs j hjx
      have htop := preFsOp_top xs j hjx
      rw [hL.out] at htop
      have hcj := preCFsOp_bd xs j
      have hplj := preFsOp_le xs (n - j) j
      rw [show j + (n - j) = n from by omega] at hplj
      have HP := Lib.hid hps
      have HSET := Lib.hid (stLFsOp_set k xs j hjx)
      have hinn := hN.inner j hjl
      have HAP := Lib.hid (fun q hq => hN.apart j hjl q hq)
      rw [hget] at hinn
      have HAP2 : Hid (∀ q, blkR (slFsOp (atFsOp xs j)) = some q → q ≠ g) := Lib.hid (fun q hq e => HAP.out q (by rw [hget]; exact hq) (by rw [e]; rfl))
      have HGET := Lib.hid hget
      have HJL := Lib.hid hjl
      clear hc hps hget HAP
      have hi1 : (j : Int) < (n : Int) := by omega
      generalize hx : atFsOp xs j = x at *
      clear hx
      obtain ⟨kk, hkk⟩ : ∃ kk : Int, kk = k + (preCFsOp xs j : Int) := ⟨_, rfl⟩
      rw [← hkk] at HSET ⊢
      have hkk0 : 0 ≤ kk := by omega
      have hkk1 : kk ≤ 2305843009213690000 := by omega
      have HKK := Lib.hid hkk
      clear hkk
      have hxn : x.dataN ≤ 2097152 := by unfold bulkFsOp at htop; omega
      obtain ⟨l, u, htight, hlu⟩ := hinn.tight
      have HLU := Lib.hid hlu
      have O0 := Lib.hid hN
      have T0 := Lib.hid htight
      have WB0 := Lib.hid hb
      clear hN htight hinn hlu hb
      have hf0 := O0.out.row.own.frozenAt (j * 4)
      have O0s := Lib.hid (O0.out.scalar lenFsOp j HJL.out 0 (by omega) (.int .i64 kk) ⟨kk, x.name, x.dst, x.dataA, x.dataN, x.dataC, x.data⟩ (by rw [HGET.out]; rfl) (by rw [HGET.out]; rfl))
      have WB0s := Lib.hid (WB0.out.trans (Win.set (lo := lo) (hi := hi) wr g (j * 4) (.int .i64 kk) hg1 hg2))
      have T0s := Lib.hid (T0.out.keep (w' := (wr).setCell ⟨g, j * 4, none⟩ (.int .i64 kk)) (fun q hq => Below.heap_setCell _ _ _ _ (fun e => HAP2.out q hq e)) (Nat.le_refl _) (by simpa using T0.out.top))
      have d0_1 : (World.setCell wr ⟨g, j * 4, none⟩ (.int .i64 kk)).cell? ⟨g, j * 4 + 1, none⟩ = _ := (World.cell?_setCell_other _ _ _ _ (by simp)).trans k1
      have d0_2 : (World.setCell wr ⟨g, j * 4, none⟩ (.int .i64 kk)).cell? ⟨g, j * 4 + 2, none⟩ = _ := (World.cell?_setCell_other _ _ _ _ (by simp)).trans k2
      have d0_3 : (World.setCell wr ⟨g, j * 4, none⟩ (.int .i64 kk)).cell? ⟨g, j * 4 + 3, none⟩ = _ := (World.cell?_setCell_other _ _ _ _ (by simp)).trans k3
      go_wp2_with fail
      refine (markText_any (kk + 1) (by omega) (by omega) _).mono ?_
      rintro e wT1 ⟨rfl, hbT1⟩
      have O1t := Lib.hid (O0s.out.below hbT1)
      have T1t := Lib.hid (T0s.out.below hbT1)
      have WB1t := Lib.hid (WB0s.out.then_below (hbT1.mono WB0s.out.size))
      have c1_1 := cell_later hbT1 d0_1
      have c1_2 := cell_later hbT1 d0_2
      have c1_3 := cell_later hbT1 d0_3
      have hf1 := O1t.out.row.own.frozenAt (j * 4 + 1)
      have O1s := Lib.hid (O1t.out.scalar lenFsOp j (by simpa using HJL.out) 1 (by omega) (.string (mtext (kk + 1))) ⟨kk, mtext (kk + 1), x.dst, x.dataA, x.dataN, x.dataC, x.data⟩ (by rw [(show ((stLFsOp k xs j).set j ⟨kk, x.name, x.dst, x.dataA, x.dataN, x.dataC, x.data⟩)[j]'(by simpa using HJL.out) = (⟨kk, x.name, x.dst, x.dataA, x.dataN, x.dataC, x.data⟩ : FsOpR) from by simp)]; rfl) (by rw [(show ((stLFsOp k xs j).set j ⟨kk, x.name, x.dst, x.dataA, x.dataN, x.dataC, x.data⟩)[j]'(by simpa using HJL.out) = (⟨kk, x.name, x.dst, x.dataA, x.dataN, x.dataC, x.data⟩ : FsOpR) from by simp)]; rfl))
      have WB1s := Lib.hid (WB1t.out.trans (Win.set (lo := lo) (hi := hi) wT1 g (j * 4 + 1) (.string (mtext (kk + 1))) hg1 hg2))
      have T1s := Lib.hid (T1t.out.keep (w' := (wT1).setCell ⟨g, j * 4 + 1, none⟩ (.string (mtext (kk + 1)))) (fun q hq => Below.heap_setCell _ _ _ _ (fun e => HAP2.out q hq e)) (Nat.le_refl _) (by simpa using T1t.out.top))
      have d1_2 : (World.setCell wT1 ⟨g, j * 4 + 1, none⟩ (.string (mtext (kk + 1)))).cell? ⟨g, j * 4 + 2, none⟩ = _ := (World.cell?_setCell_other _ _ _ _ (by simp)).trans c1_2
      have d1_3 : (World.setCell wT1 ⟨g, j * 4 + 1, none⟩ (.string (mtext (kk + 1)))).cell? ⟨g, j * 4 + 3, none⟩ = _ := (World.cell?_setCell_other _ _ _ _ (by simp)).trans c1_3
      go_wp2_with fail
      rw [show kk + 1 + 1 = kk + 2 from by omega]
      refine (markText_any (kk + 2) (by omega) (by omega) _).mono ?_
      rintro e wT2 ⟨rfl, hbT2⟩
      have O2t := Lib.hid (O1s.out.below hbT2)
      have T2t := Lib.hid (T1s.out.below hbT2)
      have WB2t := Lib.hid (WB1s.out.then_below (hbT2.mono WB1s.out.size))
      have c2_2 := cell_later hbT2 d1_2
      have c2_3 := cell_later hbT2 d1_3
      have hf2 := O2t.out.row.own.frozenAt (j * 4 + 2)
      have O2s := Lib.hid (O2t.out.scalar lenFsOp j (by simpa using HJL.out) 2 (by omega) (.string (mtext (kk + 2))) ⟨kk, mtext (kk + 1), mtext (kk + 2), x.dataA, x.dataN, x.dataC, x.data⟩ (by rw [(show (((stLFsOp k xs j).set j ⟨kk, x.name, x.dst, x.dataA, x.dataN, x.dataC, x.data⟩).set j ⟨kk, mtext (kk + 1), x.dst, x.dataA, x.dataN, x.dataC, x.data⟩)[j]'(by simpa using HJL.out) = (⟨kk, mtext (kk + 1), x.dst, x.dataA, x.dataN, x.dataC, x.data⟩ : FsOpR) from by simp)]; rfl) (by rw [(show (((stLFsOp k xs j).set j ⟨kk, x.name, x.dst, x.dataA, x.dataN, x.dataC, x.data⟩).set j ⟨kk, mtext (kk + 1), x.dst, x.dataA, x.dataN, x.dataC, x.data⟩)[j]'(by simpa using HJL.out) = (⟨kk, mtext (kk + 1), x.dst, x.dataA, x.dataN, x.dataC, x.data⟩ : FsOpR) from by simp)]; rfl))
      have WB2s := Lib.hid (WB2t.out.trans (Win.set (lo := lo) (hi := hi) wT2 g (j * 4 + 2) (.string (mtext (kk + 2))) hg1 hg2))
      have T2s := Lib.hid (T2t.out.keep (w' := (wT2).setCell ⟨g, j * 4 + 2, none⟩ (.string (mtext (kk + 2)))) (fun q hq => Below.heap_setCell _ _ _ _ (fun e => HAP2.out q hq e)) (Nat.le_refl _) (by simpa using T2t.out.top))
      have d2_3 : (World.setCell wT2 ⟨g, j * 4 + 2, none⟩ (.string (mtext (kk + 2)))).cell? ⟨g, j * 4 + 3, none⟩ = _ := (World.cell?_setCell_other _ _ _ _ (by simp)).trans c2_3
      go_wp2_with fail
      rw [show kk + 2 + 1 = kk + 3 from by omega]
      refine (markByteS_s _ _ _ x.data (kk + 3) l u _ T2s.out (show x.dataN ≤ 1073741824 by omega) (by omega) (by omega)).mono ?_
      rintro e w2 ⟨rfl, ho2, hw2⟩
      have hex : ((((stLFsOp k xs j).set j ⟨kk, x.name, x.dst, x.dataA, x.dataN, x.dataC, x.data⟩).set j ⟨kk, mtext (kk + 1), x.dst, x.dataA, x.dataN, x.dataC, x.data⟩).set j ⟨kk, mtext (kk + 1), mtext (kk + 2), x.dataA, x.dataN, x.dataC, x.data⟩)[j]'(by simpa using HJL.out) = (⟨kk, mtext (kk + 1), mtext (kk + 2), x.dataA, x.dataN, x.dataC, x.data⟩ : FsOpR) := by simp
      have hM := O2s.out.mid (L := mks by8 (kk + 3) x.dataN) j (by simpa using HJL.out) (fun q h1 h2 => by rw [hex]; exact HLU.out q h1 h2) (by rw [hex]; exact ho2) hw2 (markedFsOp kk x) (by rw [hex]; rfl) (by rw [hex]; rfl)
      simp only [List.set_set] at hM
      rw [HSET.out] at hM
      have HNEW := Lib.hid hM.1
      have HWN := Lib.hid (WB2s.out.trans hM.2)
      have HFIN : Hid (kk + 3 + (x.dataN : Int) = k + (preCFsOp xs (j + 1) : Int)) := Lib.hid (by
        rw [HP.out, HKK.out]
        unfold stepFsOp cntFsOp
        omega)
      clear hM ho2 hex hw2
      go_wp2
      go_roundw
      case rel => exact ⟨j + 1, by omega, by go_num, by rw [← HFIN.out] <;> go_num, HNEW.out, HWN.out⟩
      case measure => simp [intOf]; omega
    · obtain rfl : j = n := by omega
      go_wp2
      go_ret
      exact ⟨by rw [HCN.out] <;> rfl, ⟨by rw [hL.out]; exact hN⟩, hb⟩
theorem heldFsOpS_of {y : Row FsOpR} {k : Int} {lo hi : Nat} {w : World} (h : OwnFsOpS lo hi w ⟨y.a, y.n, y.c, stLFsOp k y.l y.l.length⟩) (hn : bulkFsOpS y ≤ 2097152) : HeldFsOpS k w y :=
  ⟨⟨hn, by have := h.nest.row.len; simp only at this; rw [stLFsOp_len] at this; exact this⟩, h.rd⟩
theorem markFsOpS_k (y : Row FsOpR) (k : Int) (lo hi : Nat) (w : World) (h : OwnFsOpS lo hi w y) (hn : bulkFsOpS y ≤ 2097152) (hk0 : 0 ≤ k) (hk1 : k ≤ 1152921504606846976) :
    Calls Try.prog 43 #[.slice y.a y.n y.c, .int .i64 k] w fun e w' => e = .returned (.int .i64 (k + cntFsOpS y)) ∧ HeldFsOpS k w' y ∧ Win lo hi w w' :=
  (markFsOpS_o y k lo hi w h hn hk0 hk1).mono fun _ _ ⟨h1, h2, h3⟩ => ⟨h1, heldFsOpS_of h2 hn, h3⟩
set_option maxHeartbeats 6400000 in
theorem heldFsOpS_k (y : Row FsOpR) (k : Int) (w : World) (h : HeldFsOpS k w y) (hk0 : 0 ≤ k) (hk1 : k ≤ 1152921504606846976) :
    Calls Try.prog 45 #[.slice y.a y.n y.c, .int .i64 k] w fun e w' => e = .returned (.int .i64 (k + cntFsOpS y)) ∧ Below w.heap.size w w' := by
  obtain ⟨a, n, c, xs⟩ := y
  obtain ⟨⟨hn, hl⟩, gr, gi⟩ := h
  simp only at hn hl gr gi ⊢
  have hL := Lib.hid hl
  have hn2 : n + preFsOp xs n ≤ 2097152 := by unfold bulkFsOpS at hn; simp only at hn; rw [hl] at hn; exact hn
  have hcb := preCFsOp_bd xs n
  have HCN : Hid (cntFsOpS ⟨a, n, c, xs⟩ = preCFsOp xs n) := Lib.hid (by unfold cntFsOpS; simp only; rw [hL.out])
  have hm := gr.max
  have hle := gr.le
  unfold maxLen at hm
  have HGI := Lib.hid gi
  clear hn hl gi
  go_enter Try.func45, Try.ntmps45
  go_wp2
  go_loopw [1, 5] (fun q i wr => ∃ j : Nat, j ≤ n ∧ i = .int .i64 j ∧ q = .int .i64 (k + (preCFsOp xs j : Int)) ∧ Below w.heap.size w wr) (fun _ i _ => n - (intOf i).toNat)
  case atStart => exact ⟨0, Nat.zero_le _, rfl, by unfold preCFsOp; simp, Below.refl _ _⟩
  case round =>
    obtain ⟨j, hj, rfl, rfl, hb⟩ := hrel
    by_cases hlt : j < n
    · obtain ⟨b, off, rfl, hbl, hc⟩ := gr.rowFsOp (by omega)
      obtain ⟨k0, k1, k2, k3⟩ := hc j hlt
      have hjx : j < xs.length := by rw [hL.out]; exact hlt
      have hjl : j < (stLFsOp k xs xs.length).length := by rw [stLFsOp_len]; exact hjx
      have hget : (stLFsOp k xs xs.length)[j]'hjl = markedFsOp (k + (preCFsOp xs j : Int)) (atFsOp xs j) := by rw [stLFsOp_get, if_pos hjx]
      have hin := HGI.out _ (List.getElem_mem hjl)
      rw [atFsOp_eq _ j hjl, hget] at k0 k1 k2 k3
      rw [hget] at hin
      have cb : ∀ o, wr.cell? ⟨b, o, none⟩ = w.cell? ⟨b, o, none⟩ := fun o => hb.cell (p := ⟨b, o, none⟩) hbl
      rw [← cb] at k0 k1 k2 k3
      have hin2 := hin.below hb (Nat.le_refl _)
      have hps := preCFsOp_succ xs j hjx
      have htop := preFsOp_top xs j hjx
      rw [hL.out] at htop
      have hcj := preCFsOp_bd xs j
      have hplj := preFsOp_le xs (n - j) j
      rw [show j + (n - j) = n from by omega] at hplj
      have HP := Lib.hid hps
      clear hc cb hps hget hin
      have hi1 : (j : Int) < (n : Int) := by omega
      generalize atFsOp xs j = x at *
      obtain ⟨kk, hkk⟩ : ∃ kk : Int, kk = k + (preCFsOp xs j : Int) := ⟨_, rfl⟩
      rw [← hkk] at k0 k1 k2 k3 hin2 ⊢
      have hkk0 : 0 ≤ kk := by omega
      have hkk1 : kk ≤ 2305843009213690000 := by omega
      have HKK := Lib.hid hkk
      clear hkk
      have hxn : x.dataN ≤ 2097152 := by unfold bulkFsOp at htop; omega
      have R0 := Lib.hid (show Rd (encI .u8) 1 wr x.dataA x.dataN x.dataC (mks by8 (kk + 3) x.dataN) from hin2)
      have HFIN : Hid (kk + 3 + (x.dataN : Int) = k + (preCFsOp xs (j + 1) : Int)) := Lib.hid (by
        rw [HP.out, HKK.out]
        unfold stepFsOp cntFsOp
        omega)
      unfold markedFsOp at k0 k1 k2 k3
      simp only at k0 k1 k2 k3
      clear hin2
      go_wp2_with fail
      have hse1 := bs_eq (mtext (kk + 1)) (mtext (kk + 1))
      rw [decide_eq_true rfl] at hse1
      go_region_held3 (fun w' => w'.cell? ⟨b, off + j * 4 + 1, none⟩ = some (.string (mtext (kk + 1))) ∧ w'.cell? ⟨b, off + j * 4 + 2, none⟩ = some (.string (mtext (kk + 2))) ∧ w'.cell? ⟨b, off + j * 4 + 3, none⟩ = some (.slice x.dataA x.dataN x.dataC) ∧ Below wr.heap.size wr w') (first | exact keepd3 (by assumption) | exact keep3 (by assumption) (Nat.le_refl _) (by assumption) | exact ⟨k1, k2, k3, (Below.refl _ _).drew⟩) (first | (go_at_call 64; refine (markText_any (kk + 1) (by omega) (by omega) _).mono ?_; rintro e wT1 ⟨rfl, hbT1⟩))
      obtain ⟨c1_1, c1_2, c1_3, hbw1⟩ : wT1.cell? ⟨b, off + j * 4 + 1, none⟩ = some (.string (mtext (kk + 1))) ∧ wT1.cell? ⟨b, off + j * 4 + 2, none⟩ = some (.string (mtext (kk + 2))) ∧ wT1.cell? ⟨b, off + j * 4 + 3, none⟩ = some (.slice x.dataA x.dataN x.dataC) ∧ Below wr.heap.size wr wT1 := by assumption
      have hb1 := hb.trans (hbw1.mono hb.size)
      have R2 := Lib.hid (R0.out.below hbw1 (Nat.le_refl _))
      clear hbT1
      go_wp2_with fail
      rw [show kk + 1 + 1 = kk + 2 from by omega]
      have hse2 := bs_eq (mtext (kk + 2)) (mtext (kk + 2))
      rw [decide_eq_true rfl] at hse2
      go_region_held3 (fun w' => w'.cell? ⟨b, off + j * 4 + 2, none⟩ = some (.string (mtext (kk + 2))) ∧ w'.cell? ⟨b, off + j * 4 + 3, none⟩ = some (.slice x.dataA x.dataN x.dataC) ∧ Below wT1.heap.size wT1 w') (first | exact keepd2 (by assumption) | exact keep2 (by assumption) (Nat.le_refl _) (by assumption) | exact ⟨c1_2, c1_3, (Below.refl _ _).drew⟩) (first | (go_at_call 64; refine (markText_any (kk + 2) (by omega) (by omega) _).mono ?_; rintro e wT2 ⟨rfl, hbT2⟩))
      obtain ⟨c2_2, c2_3, hbw2⟩ : wT2.cell? ⟨b, off + j * 4 + 2, none⟩ = some (.string (mtext (kk + 2))) ∧ wT2.cell? ⟨b, off + j * 4 + 3, none⟩ = some (.slice x.dataA x.dataN x.dataC) ∧ Below wT1.heap.size wT1 wT2 := by assumption
      have hb2 := hb1.trans (hbw2.mono hb1.size)
      have R3 := Lib.hid (R2.out.below hbw2 (Nat.le_refl _))
      clear hbT2
      go_wp2_with fail
      rw [show kk + 2 + 1 = kk + 3 from by omega]
      refine (heldByteS_s x.dataA x.dataN x.dataC (kk + 3) _ R3.out (by omega) (by omega) (by omega)).mono ?_
      rintro e w2 ⟨rfl, hbz⟩
      have hbF := hb2.trans (hbz.mono hb2.size)
      have hnn : ¬ kk + 3 + (x.dataN : Int) < 0 := by omega
      go_wp2
      go_roundw
      case rel => exact ⟨j + 1, by omega, by go_num, by rw [← HFIN.out] <;> go_num, hbF⟩
      case measure => simp [intOf]; omega
    · obtain rfl : j = n := by omega
      go_wp2
      go_ret
      exact ⟨by rw [HCN.out] <;> rfl, hb⟩
end Go.Proofs.Ytoodlmhnemamhaa

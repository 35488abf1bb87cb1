/- Marks on a row of File, and whether they are held. -/
import Derived.Test.YtoodlmhnemamhaaFileSK
import Derived.Test.YtoodlmhnemamhaaFileK
import Derived.Test.YtoodlmhnemamhaaNestM
import Derived.Test.YtoodlmhnemamhaaStrS
import Derived.Test.YtoodlmhnemamhaaDiskP
import Derived.Test.YtoodlmhnemamhaaDiskS
namespace Go.Proofs.Ytoodlmhnemamhaa
open Go.RowKit
def stepFile (x : FileR) : Nat := 1 + cntFile x
def preCFile (xs : List FileR) (j : Nat) : Nat := ((xs.take j).map stepFile).sum
theorem preCFile_succ (xs : List FileR) (j : Nat) (h : j < xs.length) : preCFile xs (j + 1) = preCFile xs j + stepFile (atFile xs j) := by
  unfold preCFile
  rw [List.take_succ_eq_append_getElem h, atFile_eq xs j h, List.map_append, List.sum_append]
  simp only [List.map_cons, List.map_nil, List.sum_cons, List.sum_nil, Nat.add_zero]
theorem preCFile_bd (xs : List FileR) (j : Nat) : preCFile xs j ≤ 1000 * (j + preFile xs j) := by
  induction j with
  | zero => simp [preCFile]
  | succ j ih =>
    by_cases h : j < xs.length
    · rw [preCFile_succ xs j h, preFile_succ xs j h]
      have := cntFile_le (y := atFile xs j) (b := bulkFile (atFile xs j)) (Nat.le_refl _)
      unfold stepFile
      omega
    · have e1 : preCFile xs (j + 1) = preCFile xs j := by unfold preCFile; rw [List.take_of_length_le (by omega), List.take_of_length_le (show xs.length ≤ j by omega)]
      have e2 : preFile xs (j + 1) = preFile xs j := by unfold preFile; rw [List.take_of_length_le (by omega), List.take_of_length_le (show xs.length ≤ j by omega)]
      rw [e1, e2]
      omega
def cntFileS (y : Row FileR) : Nat := preCFile y.l y.l.length
theorem cntFileS_le {y : Row FileR} {b : Nat} (hl : y.l.length = y.n) (h : bulkFileS y ≤ b) : cntFileS y ≤ 1000 * b := by
  unfold bulkFileS at h
  unfold cntFileS
  have := preCFile_bd y.l y.l.length
  omega
theorem cntFileS_own {lo hi : Nat} {w : World} {y : Row FileR} {b : Nat} (h : OwnFileS lo hi w y) (hb : bulkFileS y ≤ b) : cntFileS y ≤ 1000 * b := cntFileS_le h.nest.row.len hb
def markedFile (k : Int) (x : FileR) : FileR := ⟨mtext k, x.dataA, x.dataN, x.dataC, mks by8 (k + 1) x.dataN⟩
/-- After j of the marks. -/
def stLFile (k : Int) (xs : List FileR) (j : Nat) : List FileR := (List.range xs.length).map fun i => if i < j then markedFile (k + (preCFile xs i : Int)) (atFile xs i) else atFile xs i
theorem stLFile_len (k : Int) (xs : List FileR) (j : Nat) : (stLFile k xs j).length = xs.length := by simp [stLFile]
theorem stLFile_get (k : Int) (xs : List FileR) (j i : Nat) (h : i < (stLFile k xs j).length) : (stLFile k xs j)[i] = if i < j then markedFile (k + (preCFile xs i : Int)) (atFile xs i) else atFile xs i := by simp [stLFile]
theorem stLFile_zero (k : Int) (xs : List FileR) : stLFile k xs 0 = xs := by
  apply List.ext_getElem
  · rw [stLFile_len]
  · intro i h1 h2
    rw [stLFile_get, if_neg (by omega), atFile_eq xs i h2]
theorem stLFile_set (k : Int) (xs : List FileR) (j : Nat) (_h : j < xs.length) : (stLFile k xs j).set j (markedFile (k + (preCFile xs j : Int)) (atFile xs j)) = stLFile k xs (j + 1) := by
  apply List.ext_getElem
  · rw [List.length_set, stLFile_len, stLFile_len]
  · intro i h1 h2
    rw [List.getElem_set, stLFile_get _ _ _ _ h2]
    by_cases hji : j = i
    · subst hji; rw [if_pos rfl, if_pos (by omega)]
    · rw [if_neg hji, stLFile_get]
      by_cases hi : i < j
      · rw [if_pos hi, if_pos (by omega)]
      · rw [if_neg hi, if_neg (by omega)]
def HeldFileS (k : Int) (w : World) (y : Row FileR) : Prop := (bulkFileS y ≤ 2097152 ∧ y.l.length = y.n) ∧ RdN encFile 2 (encI .u8) 1 slFile w ⟨y.a, y.n, y.c, stLFile k y.l y.l.length⟩
theorem HeldFileS.below {k : Int} {w w' : World} {y : Row FileR} (h : HeldFileS k w y) (hb : Below w.heap.size w w') : HeldFileS k w' y := ⟨h.1, h.2.below hb (Nat.le_refl _)⟩
set_option maxHeartbeats 6400000 in
theorem markFileS_o (y : Row FileR) (k : Int) (lo hi : Nat) (w : World) (h : OwnFileS lo hi w y) (hn : bulkFileS y ≤ 2097152) (hk0 : 0 ≤ k) (hk1 : k ≤ 1152921504606846976) :
    Calls Try.prog 42 #[.slice y.a y.n y.c, .int .i64 k] w fun e w' => e = .returned (.int .i64 (k + cntFileS y)) ∧ OwnFileS lo hi w' ⟨y.a, y.n, y.c, stLFile k y.l y.l.length⟩ ∧ Win lo hi w w' := by
  obtain ⟨a, n, c, xs⟩ := y
  obtain ⟨hN0⟩ := h
  have hL := Lib.hid hN0.row.len
  simp only at hL ⊢
  have HBK := Lib.hid hn
  have hn2 : n + preFile xs n ≤ 2097152 := by unfold bulkFileS at hn; simp only at hn; rw [hL.out] at hn; exact hn
  have hcb := preCFile_bd xs n
  have HCN : Hid (cntFileS ⟨a, n, c, xs⟩ = preCFile xs n) := Lib.hid (by unfold cntFileS; simp only; rw [hL.out])
  rw [← stLFile_zero k xs] at hN0
  clear hn
  go_enter Try.func42, Try.ntmps42
  go_wp2
  go_loopw [1, 5] (fun q i wr => ∃ j : Nat, j ≤ n ∧ i = .int .i64 j ∧ q = .int .i64 (k + (preCFile xs j : Int)) ∧ OwnN encFile 2 71 (encI .u8) 1 5 slFile lo hi wr ⟨a, n, c, stLFile k xs j⟩ ∧ Win lo hi w wr) (fun _ i _ => n - (intOf i).toNat)
  case atStart => exact ⟨0, Nat.zero_le _, rfl, by unfold preCFile; simp, hN0, Win.refl _ _ _⟩
  case round =>
    obtain ⟨j, hj, rfl, rfl, hN, hb⟩ := hrel
    clear hN0
    by_cases hlt : j < n
    · obtain ⟨g, hga⟩ := own_some hN.row.own (by simp only; omega)
      simp only at hga
      subst hga
      have hg1 := (World.ownsRow.lt hN.row.own g rfl).1
      have hg2 := hN.row.lt g rfl
      have hjx : j < xs.length := by rw [hL.out]; exact hlt
      have hjl : j < (stLFile k xs j).length := by rw [stLFile_len]; exact hjx
      have hget : (stLFile k xs j)[j]'hjl = atFile xs j := by rw [stLFile_get, if_neg (by omega)]
      obtain ⟨b', off', hbo, _, hc⟩ := (hN.row.rd lenFile).rowFile (by simp only; omega)
      simp only [Option.some.injEq, Addr.mk.injEq, and_true] at hbo
      obtain ⟨rfl, rfl⟩ := hbo
      obtain ⟨k0, k1⟩ := hc j hlt
      rw [atFile_eq _ j hjl, hget] at k0 k1
      simp only [Nat.zero_add] at k0 k1
      have hps := preCFile_succ xs j hjx
      have htop := preFile_top xs j hjx
      rw [hL.out] at htop
      have hcj := preCFile_bd xs j
      have hplj := preFile_le xs (n - j) j
      rw [show j + (n - j) = n from by omega] at hplj
      have HP := Lib.hid hps
      have HSET := Lib.hid (stLFile_set k xs j hjx)
      have hinn := hN.inner j hjl
      have HAP := Lib.hid (fun q hq => hN.apart j hjl q hq)
      rw [hget] at hinn
      have HAP2 : Hid (∀ q, blkR (slFile (atFile xs j)) = some q → q ≠ g) := Lib.hid (fun q hq e => HAP.out q (by rw [hget]; exact hq) (by rw [e]; rfl))
      have HGET := Lib.hid hget
      have HJL := Lib.hid hjl
      clear hc hps hget HAP
      have hi1 : (j : Int) < (n : Int) := by omega
      generalize hx : atFile xs j = x at *
      clear hx
      obtain ⟨kk, hkk⟩ : ∃ kk : Int, kk = k + (preCFile xs j : Int) := ⟨_, rfl⟩
      rw [← hkk] at HSET ⊢
      have hkk0 : 0 ≤ kk := by omega
      have hkk1 : kk ≤ 2305843009213690000 := by omega
      have HKK := Lib.hid hkk
      clear hkk
      have hxn : x.dataN ≤ 2097152 := by unfold bulkFile at htop; omega
      obtain ⟨l, u, htight, hlu⟩ := hinn.tight
      have HLU := Lib.hid hlu
      have O0 := Lib.hid hN
      have T0 := Lib.hid htight
      have WB0 := Lib.hid hb
      clear hN htight hinn hlu hb
      go_wp2_with fail
      refine (markText_any kk (by omega) (by omega) _).mono ?_
      rintro e wT0 ⟨rfl, hbT0⟩
      have O0t := Lib.hid (O0.out.below hbT0)
      have T0t := Lib.hid (T0.out.below hbT0)
      have WB0t := Lib.hid (WB0.out.then_below (hbT0.mono WB0.out.size))
      have c0_0 := cell_later hbT0 k0
      have c0_1 := cell_later hbT0 k1
      have hf0 := O0t.out.row.own.frozenAt (j * 2)
      have O0s := Lib.hid (O0t.out.scalar lenFile j HJL.out 0 (by omega) (.string (mtext kk)) ⟨mtext kk, x.dataA, x.dataN, x.dataC, x.data⟩ (by rw [HGET.out]; rfl) (by rw [HGET.out]; rfl))
      have WB0s := Lib.hid (WB0t.out.trans (Win.set (lo := lo) (hi := hi) wT0 g (j * 2) (.string (mtext kk)) hg1 hg2))
      have T0s := Lib.hid (T0t.out.keep (w' := (wT0).setCell ⟨g, j * 2, none⟩ (.string (mtext kk))) (fun q hq => Below.heap_setCell _ _ _ _ (fun e => HAP2.out q hq e)) (Nat.le_refl _) (by simpa using T0t.out.top))
      have d0_1 : (World.setCell wT0 ⟨g, j * 2, none⟩ (.string (mtext kk))).cell? ⟨g, j * 2 + 1, none⟩ = _ := (World.cell?_setCell_other _ _ _ _ (by simp)).trans c0_1
      go_wp2_with fail
      refine (markByteS_s _ _ _ x.data (kk + 1) l u _ T0s.out (show x.dataN ≤ 1073741824 by omega) (by omega) (by omega)).mono ?_
      rintro e w2 ⟨rfl, ho2, hw2⟩
      have hex : ((stLFile k xs j).set j ⟨mtext kk, x.dataA, x.dataN, x.dataC, x.data⟩)[j]'(by simpa using HJL.out) = (⟨mtext kk, x.dataA, x.dataN, x.dataC, x.data⟩ : FileR) := by simp
      have hM := O0s.out.mid (L := mks by8 (kk + 1) x.dataN) j (by simpa using HJL.out) (fun q h1 h2 => by rw [hex]; exact HLU.out q h1 h2) (by rw [hex]; exact ho2) hw2 (markedFile kk x) (by rw [hex]; rfl) (by rw [hex]; rfl)
      simp only [List.set_set] at hM
      rw [HSET.out] at hM
      have HNEW := Lib.hid hM.1
      have HWN := Lib.hid (WB0s.out.trans hM.2)
      have HFIN : Hid (kk + 1 + (x.dataN : Int) = k + (preCFile xs (j + 1) : Int)) := Lib.hid (by
        rw [HP.out, HKK.out]
        unfold stepFile cntFile
        omega)
      clear hM ho2 hex hw2
      go_wp2
      go_roundw
      case rel => exact ⟨j + 1, by omega, by go_num, by rw [← HFIN.out] <;> go_num, HNEW.out, HWN.out⟩
      case measure => simp [intOf]; omega
    · obtain rfl : j = n := by omega
      go_wp2
      go_ret
      exact ⟨by rw [HCN.out] <;> rfl, ⟨by rw [hL.out]; exact hN⟩, hb⟩
theorem heldFileS_of {y : Row FileR} {k : Int} {lo hi : Nat} {w : World} (h : OwnFileS lo hi w ⟨y.a, y.n, y.c, stLFile k y.l y.l.length⟩) (hn : bulkFileS y ≤ 2097152) : HeldFileS k w y :=
  ⟨⟨hn, by have := h.nest.row.len; simp only at this; rw [stLFile_len] at this; exact this⟩, h.rd⟩
theorem markFileS_k (y : Row FileR) (k : Int) (lo hi : Nat) (w : World) (h : OwnFileS lo hi w y) (hn : bulkFileS y ≤ 2097152) (hk0 : 0 ≤ k) (hk1 : k ≤ 1152921504606846976) :
    Calls Try.prog 42 #[.slice y.a y.n y.c, .int .i64 k] w fun e w' => e = .returned (.int .i64 (k + cntFileS y)) ∧ HeldFileS k w' y ∧ Win lo hi w w' :=
  (markFileS_o y k lo hi w h hn hk0 hk1).mono fun _ _ ⟨h1, h2, h3⟩ => ⟨h1, heldFileS_of h2 hn, h3⟩
set_option maxHeartbeats 6400000 in
theorem heldFileS_k (y : Row FileR) (k : Int) (w : World) (h : HeldFileS k w y) (hk0 : 0 ≤ k) (hk1 : k ≤ 1152921504606846976) :
    Calls Try.prog 44 #[.slice y.a y.n y.c, .int .i64 k] w fun e w' => e = .returned (.int .i64 (k + cntFileS y)) ∧ Below w.heap.size w w' := by
  obtain ⟨a, n, c, xs⟩ := y
  obtain ⟨⟨hn, hl⟩, gr, gi⟩ := h
  simp only at hn hl gr gi ⊢
  have hL := Lib.hid hl
  have hn2 : n + preFile xs n ≤ 2097152 := by unfold bulkFileS at hn; simp only at hn; rw [hl] at hn; exact hn
  have hcb := preCFile_bd xs n
  have HCN : Hid (cntFileS ⟨a, n, c, xs⟩ = preCFile xs n) := Lib.hid (by unfold cntFileS; simp only; rw [hL.out])
  have hm := gr.max
  have hle := gr.le
  unfold maxLen at hm
  have HGI := Lib.hid gi
  clear hn hl gi
  go_enter Try.func44, Try.ntmps44
  go_wp2
  go_loopw [1, 5] (fun q i wr => ∃ j : Nat, j ≤ n ∧ i = .int .i64 j ∧ q = .int .i64 (k + (preCFile xs j : Int)) ∧ Below w.heap.size w wr) (fun _ i _ => n - (intOf i).toNat)
  case atStart => exact ⟨0, Nat.zero_le _, rfl, by unfold preCFile; simp, Below.refl _ _⟩
  case round =>
    obtain ⟨j, hj, rfl, rfl, hb⟩ := hrel
    by_cases hlt : j < n
    · obtain ⟨b, off, rfl, hbl, hc⟩ := gr.rowFile (by omega)
      obtain ⟨k0, k1⟩ := hc j hlt
      have hjx : j < xs.length := by rw [hL.out]; exact hlt
      have hjl : j < (stLFile k xs xs.length).length := by rw [stLFile_len]; exact hjx
      have hget : (stLFile k xs xs.length)[j]'hjl = markedFile (k + (preCFile xs j : Int)) (atFile xs j) := by rw [stLFile_get, if_pos hjx]
      have hin := HGI.out _ (List.getElem_mem hjl)
      rw [atFile_eq _ j hjl, hget] at k0 k1
      rw [hget] at hin
      have cb : ∀ o, wr.cell? ⟨b, o, none⟩ = w.cell? ⟨b, o, none⟩ := fun o => hb.cell (p := ⟨b, o, none⟩) hbl
      rw [← cb] at k0 k1
      have hin2 := hin.below hb (Nat.le_refl _)
      have hps := preCFile_succ xs j hjx
      have htop := preFile_top xs j hjx
      rw [hL.out] at htop
      have hcj := preCFile_bd xs j
      have hplj := preFile_le xs (n - j) j
      rw [show j + (n - j) = n from by omega] at hplj
      have HP := Lib.hid hps
      clear hc cb hps hget hin
      have hi1 : (j : Int) < (n : Int) := by omega
      generalize atFile xs j = x at *
      obtain ⟨kk, hkk⟩ : ∃ kk : Int, kk = k + (preCFile xs j : Int) := ⟨_, rfl⟩
      rw [← hkk] at k0 k1 hin2 ⊢
      have hkk0 : 0 ≤ kk := by omega
      have hkk1 : kk ≤ 2305843009213690000 := by omega
      have HKK := Lib.hid hkk
      clear hkk
      have hxn : x.dataN ≤ 2097152 := by unfold bulkFile at htop; omega
      have R0 := Lib.hid (show Rd (encI .u8) 1 wr x.dataA x.dataN x.dataC (mks by8 (kk + 1) x.dataN) from hin2)
      have HFIN : Hid (kk + 1 + (x.dataN : Int) = k + (preCFile xs (j + 1) : Int)) := Lib.hid (by
        rw [HP.out, HKK.out]
        unfold stepFile cntFile
        omega)
      unfold markedFile at k0 k1
      simp only at k0 k1
      clear hin2
      go_wp2_with fail
      have hse0 := bs_eq (mtext kk) (mtext kk)
      rw [decide_eq_true rfl] at hse0
      go_region_held3 (fun w' => w'.cell? ⟨b, off + j * 2, none⟩ = some (.string (mtext kk)) ∧ w'.cell? ⟨b, off + j * 2 + 1, none⟩ = some (.slice x.dataA x.dataN x.dataC) ∧ Below wr.heap.size wr w') (first | exact keepd2 (by assumption) | exact keep2 (by assumption) (Nat.le_refl _) (by assumption) | exact ⟨k0, k1, (Below.refl _ _).drew⟩) (first | (go_at_call 64; refine (markText_any kk (by omega) (by omega) _).mono ?_; rintro e wT0 ⟨rfl, hbT0⟩))
      obtain ⟨c0_0, c0_1, hbw0⟩ : wT0.cell? ⟨b, off + j * 2, none⟩ = some (.string (mtext kk)) ∧ wT0.cell? ⟨b, off + j * 2 + 1, none⟩ = some (.slice x.dataA x.dataN x.dataC) ∧ Below wr.heap.size wr wT0 := by assumption
      have hb0 := hb.trans (hbw0.mono hb.size)
      have R1 := Lib.hid (R0.out.below hbw0 (Nat.le_refl _))
      clear hbT0
      go_wp2_with fail
      refine (heldByteS_s x.dataA x.dataN x.dataC (kk + 1) _ R1.out (by omega) (by omega) (by omega)).mono ?_
      rintro e w2 ⟨rfl, hbz⟩
      have hbF := hb0.trans (hbz.mono hb0.size)
      have hnn : ¬ kk + 1 + (x.dataN : Int) < 0 := by omega
      go_wp2
      go_roundw
      case rel => exact ⟨j + 1, by omega, by go_num, by rw [← HFIN.out] <;> go_num, hbF⟩
      case measure => simp [intOf]; omega
    · obtain rfl : j = n := by omega
      go_wp2
      go_ret
      exact ⟨by rw [HCN.out] <;> rfl, hb⟩
end Go.Proofs.Ytoodlmhnemamhaa

/- The kind BatchS: rows of Batch, each with a row of its own. -/
import Derived.Test.YthffmjeodoinlaaBatchK
import Derived.Test.YthffmjeodoinlaaNest
import Derived.Test.YthffmjeodoinlaaKeep
namespace Go.Proofs.Ythffmjeodoinlaa
open Go.RowKit
def zBatch : BatchR := ⟨none, 0, 0, []⟩
def atBatch (xs : List BatchR) (j : Nat) : BatchR := xs.getD j zBatch
theorem atBatch_eq (xs : List BatchR) (j : Nat) (h : j < xs.length) : atBatch xs j = xs[j] := by simp [atBatch, List.getD, h]
theorem lenBatch : ∀ x : BatchR, (encBatch x).length = 1 := fun _ => rfl
theorem Rd.rowBatch {w : World} {a : Option Addr} {n cap : Nat} {xs : List BatchR} (h : Rd encBatch 1 w a n cap xs) (hn : 0 < n) :
    ∃ b off, a = some ⟨b, off, none⟩ ∧ b < w.heap.size ∧ ∀ j, j < n → w.cell? ⟨b, off + j, none⟩ = some (.slice (atBatch xs j).recsA (atBatch xs j).recsN (atBatch xs j).recsC) := by
  obtain ⟨b, off, ha, hl, hc⟩ := h.spot hn
  refine ⟨b, off, ha, hl, fun j hj => ?_⟩
  have hj' : j < xs.length := by rw [h.len]; exact hj
  rw [atBatch_eq xs j hj']
  simpa using hc j hj' 0 (.slice xs[j].recsA xs[j].recsN xs[j].recsC) rfl
def slBatch (x : BatchR) : Row RecR := ⟨x.recsA, x.recsN, x.recsC, x.recs⟩
def datBatchS (y : Row BatchR) : List (List RecR) := y.l.map datBatch
def rdBatchS (w : World) (y : Row BatchR) : Prop := RdN encBatch 1 encRec 3 slBatch w y
theorem rdBatchS_below {w w' : World} {y : Row BatchR} (h : rdBatchS w y) {B : Nat} (hb : Below B w w') (hB : w.heap.size ≤ B) : rdBatchS w' y := RdN.below h hb hB
structure OwnBatchS (lo hi : Nat) (w : World) (y : Row BatchR) : Prop where
  nest : OwnN encBatch 1 68 encRec 3 41 slBatch lo hi w y
theorem OwnBatchS.below {lo hi : Nat} {w w' : World} {y : Row BatchR} (h : OwnBatchS lo hi w y) (hb : Below w.heap.size w w') : OwnBatchS lo hi w' y := ⟨h.nest.below hb⟩
theorem OwnBatchS.win {lo hi lo' hi' : Nat} {w w' : World} {y : Row BatchR} (h : OwnBatchS lo hi w y) (hw : Win lo' hi' w w') (hd : hi' ≤ lo ∨ hi ≤ lo') : OwnBatchS lo hi w' y := ⟨h.nest.win hw hd⟩
theorem OwnBatchS.lo_le {lo hi lo' : Nat} {w : World} {y : Row BatchR} (h : OwnBatchS lo hi w y) (hl : lo' ≤ lo) : OwnBatchS lo' hi w y := ⟨h.nest.lo_le hl⟩
theorem OwnBatchS.rd {lo hi : Nat} {w : World} {y : Row BatchR} (h : OwnBatchS lo hi w y) : rdBatchS w y := h.nest.rd lenBatch lenRec
def preBatch (xs : List BatchR) (j : Nat) : Nat := ((xs.take j).map bulkBatch).sum
theorem preBatch_succ (xs : List BatchR) (j : Nat) (h : j < xs.length) : preBatch xs (j + 1) = preBatch xs j + bulkBatch (atBatch xs j) := by
  unfold preBatch
  rw [List.take_succ_eq_append_getElem h, atBatch_eq xs j h, List.map_append, List.sum_append]
  simp only [List.map_cons, List.map_nil, List.sum_cons, List.sum_nil, Nat.add_zero]
theorem preBatch_le (xs : List BatchR) : ∀ d j, preBatch xs j ≤ preBatch xs (j + d) := by
  intro d
  induction d with
  | zero => intro j; exact Nat.le_refl _
  | succ d ih =>
    intro j
    refine Nat.le_trans (ih j) ?_
    by_cases h : j + d < xs.length
    · rw [show j + (d + 1) = j + d + 1 from by omega, preBatch_succ xs _ h]; omega
    · unfold preBatch
      rw [List.take_of_length_le (show xs.length ≤ j + d by omega), List.take_of_length_le (show xs.length ≤ j + (d + 1) by omega)]
      exact Nat.le_refl _
theorem preBatch_top (xs : List BatchR) (j : Nat) (h : j < xs.length) : preBatch xs j + bulkBatch (atBatch xs j) ≤ preBatch xs xs.length := by
  rw [← preBatch_succ xs j h]
  have := preBatch_le xs (xs.length - (j + 1)) (j + 1)
  rw [show j + 1 + (xs.length - (j + 1)) = xs.length from by omega] at this
  exact this
def bulkBatchS (y : Row BatchR) : Nat := y.n + preBatch y.l y.l.length
theorem take_succ_datBatch {xs ys : List BatchR} {k : Nat} (h : (xs.take k).map datBatch = (ys.take k).map datBatch) (h1 : k < xs.length) (h2 : k < ys.length) (he : datBatch (atBatch xs k) = datBatch (atBatch ys k)) : (xs.take (k + 1)).map datBatch = (ys.take (k + 1)).map datBatch := by
  rw [List.take_succ_eq_append_getElem h1, List.take_succ_eq_append_getElem h2, List.map_append, List.map_append, h]
  rw [atBatch_eq xs k h1, atBatch_eq ys k h2] at he
  simp [he]
theorem ne_datBatch {xs ys : List BatchR} {k : Nat} (h1 : k < xs.length) (h2 : k < ys.length) (he : ¬ datBatch (atBatch xs k) = datBatch (atBatch ys k)) : ¬ xs.map datBatch = ys.map datBatch := by
  intro h
  apply he
  have := congrArg (fun l => l[k]?) h
  simp only [List.getElem?_map, List.getElem?_eq_getElem h1, List.getElem?_eq_getElem h2, Option.map_some, Option.some.injEq] at this
  rw [atBatch_eq xs k h1, atBatch_eq ys k h2]
  exact this
set_option maxHeartbeats 3200000 in
theorem eqBatchS_any (a b : Option Addr) (n cap m cap' : Nat) (xs ys : List BatchR) (w : World) (h : rdBatchS w ⟨a, n, cap, xs⟩) (h' : rdBatchS w ⟨b, m, cap', ys⟩) :
    Calls Try.prog 17 #[.slice a n cap, .slice b m cap'] w fun e w' => e = .returned (.bool (decide (xs.map datBatch = ys.map datBatch))) ∧ Below w.heap.size w w' := by
  obtain ⟨gr, gi⟩ := h
  obtain ⟨gr', gi'⟩ := h'
  simp only at gr gi gr' gi'
  have hL := Lib.hid gr.len
  have hL' := Lib.hid gr'.len
  have hm := gr.max
  have hle := gr.le
  have hm' := gr'.max
  have hle' := gr'.le
  unfold maxLen at hm hm'
  by_cases hnm : n = m
  · subst hnm
    go_enter Try.func17, Try.ntmps17
    go_wp2
    go_loopw [5] (fun i wr => ∃ k : Nat, k ≤ n ∧ i = .int .i64 k ∧ (xs.take k).map datBatch = (ys.take k).map datBatch ∧ Below w.heap.size w wr) (fun i _ => n - (intOf i).toNat)
    case atStart => exact ⟨0, Nat.zero_le _, rfl, rfl, Below.refl _ _⟩
    case round =>
      obtain ⟨k, hk, rfl, he, hb⟩ := hrel
      have HE := Lib.hid he
      clear he
      by_cases hlt : k < n
      · obtain ⟨b1, off1, rfl, hbl1, hc1⟩ := gr.rowBatch (by omega)
        obtain ⟨b2, off2, rfl, hbl2, hc2⟩ := gr'.rowBatch (by omega)
        have k0 := hc1 k hlt
        have l0 := hc2 k hlt
        have cb1 : ∀ o, wr.cell? ⟨b1, o, none⟩ = w.cell? ⟨b1, o, none⟩ := fun o => hb.cell (p := ⟨b1, o, none⟩) hbl1
        have cb2 : ∀ o, wr.cell? ⟨b2, o, none⟩ = w.cell? ⟨b2, o, none⟩ := fun o => hb.cell (p := ⟨b2, o, none⟩) hbl2
        rw [← cb1] at k0
        rw [← cb2] at l0
        have kx : k < xs.length := by rw [hL.out]; exact hlt
        have ky : k < ys.length := by rw [hL'.out]; exact hlt
        have rx : rdBatch wr (atBatch xs k) := by rw [atBatch_eq xs k kx]; exact rdBatch_below (gi _ (List.getElem_mem kx)) hb (Nat.le_refl _)
        have ry : rdBatch wr (atBatch ys k) := by rw [atBatch_eq ys k ky]; exact rdBatch_below (gi' _ (List.getElem_mem ky)) hb (Nat.le_refl _)
        clear hc1 hc2 cb1 cb2 gr gr' gi gi'
        have hi1 : (k : Int) < (n : Int) := by omega
        have HT := Lib.hid (fun he => take_succ_datBatch HE.out kx ky he)
        have HN := Lib.hid (fun he => ne_datBatch kx ky he)
        have HRX := Lib.hid rx
        have HRY := Lib.hid ry
        clear rx ry
        generalize hx : atBatch xs k = x at *
        generalize hy : atBatch ys k = y at *
        clear hx hy
        go_wp2_with fail
        go_region_held3 (fun w' => w'.cell? ⟨b1, off1 + k, none⟩ = some (.slice x.recsA x.recsN x.recsC) ∧ w'.cell? ⟨b2, off2 + k, none⟩ = some (.slice y.recsA y.recsN y.recsC) ∧ Below wr.heap.size wr w') (first | exact keepd2 (by assumption) | exact keep2 (by assumption) (Nat.le_refl _) (by assumption) | exact ⟨k0, l0, (Below.refl _ _).drew⟩) (first | (go_at_call 43; refine (eqBatch_k x y _ _ rfl rfl _ (rdBatch_below HRX.out (tail2 (by assumption) : Below wr.heap.size wr _) (Nat.le_refl _)) (rdBatch_below HRY.out (tail2 (by assumption) : Below wr.heap.size wr _) (Nat.le_refl _))).mono ?_; rintro e wa ⟨rfl, hba⟩))
        have hb2 : Below wr.heap.size wr _ := tail2 (by assumption)
        have hb3 := hb.trans (hb2.mono hb.size)
        by_cases hxy : datBatch x = datBatch y
        · have HQ := Lib.hid (decide_eq_true hxy)
          have HT2 := Lib.hid (HT.out hxy)
          rw [HQ.out]
          clear hxy HT HN
          go_wp2
          go_roundw
          case rel => exact ⟨k + 1, by omega, by go_num, HT2.out, hb3⟩
          case measure => simp [intOf]; omega
        · have HQ := Lib.hid (decide_eq_false hxy)
          have HT2 := Lib.hid (decide_eq_false (HN.out hxy))
          rw [HQ.out]
          clear hxy HT HN
          go_wp2
          go_ret
          exact ⟨by rw [HT2.out] <;> rfl, hb3⟩
      · obtain rfl : k = n := by omega
        go_wp2
        go_ret
        refine ⟨?_, hb⟩
        have := HE.out
        rw [List.take_of_length_le (by rw [hL.out]; exact Nat.le_refl _), List.take_of_length_le (by rw [hL'.out]; exact Nat.le_refl _)] at this
        simp [this]
  · have hne : ¬ xs.map datBatch = ys.map datBatch := fun e => hnm (by have := congrArg List.length e; simp only [List.length_map] at this; rw [← hL.out, ← hL'.out, this])
    have hi1 : ((n : Int) != (m : Int)) = true := by simp; omega
    go_enter Try.func17, Try.ntmps17
    go_wp2
    go_ret
    exact ⟨by simp [hne], Below.refl _ _⟩
theorem eqBatchS_k (x y : Row BatchR) (D D' : List (List RecR)) (hD : datBatchS x = D) (hD' : datBatchS y = D') (w : World) (h : rdBatchS w x) (h' : rdBatchS w y) :
    Calls Try.prog 17 #[.slice x.a x.n x.c, .slice y.a y.n y.c] w fun e w' => e = .returned (.bool (decide (D = D'))) ∧ Below w.heap.size w w' := by
  subst hD
  subst hD'
  exact eqBatchS_any _ _ _ _ _ _ _ _ _ h h'
def stepBatch (x : BatchR) : Nat := cntBatch x
def preCBatch (xs : List BatchR) (j : Nat) : Nat := ((xs.take j).map stepBatch).sum
theorem preCBatch_succ (xs : List BatchR) (j : Nat) (h : j < xs.length) : preCBatch xs (j + 1) = preCBatch xs j + stepBatch (atBatch xs j) := by
  unfold preCBatch
  rw [List.take_succ_eq_append_getElem h, atBatch_eq xs j h, List.map_append, List.sum_append]
  simp only [List.map_cons, List.map_nil, List.sum_cons, List.sum_nil, Nat.add_zero]
theorem preCBatch_bd (xs : List BatchR) (j : Nat) : preCBatch xs j ≤ 1000 * (j + preBatch xs j) := by
  induction j with
  | zero => simp [preCBatch]
  | succ j ih =>
    by_cases h : j < xs.length
    · rw [preCBatch_succ xs j h, preBatch_succ xs j h]
      have := cntBatch_le (y := atBatch xs j) (b := bulkBatch (atBatch xs j)) (Nat.le_refl _)
      unfold stepBatch
      omega
    · have e1 : preCBatch xs (j + 1) = preCBatch xs j := by unfold preCBatch; rw [List.take_of_length_le (by omega), List.take_of_length_le (show xs.length ≤ j by omega)]
      have e2 : preBatch xs (j + 1) = preBatch xs j := by unfold preBatch; rw [List.take_of_length_le (by omega), List.take_of_length_le (show xs.length ≤ j by omega)]
      rw [e1, e2]
      omega
def cntBatchS (y : Row BatchR) : Nat := preCBatch y.l y.l.length
theorem cntBatchS_le {y : Row BatchR} {b : Nat} (hl : y.l.length = y.n) (h : bulkBatchS y ≤ b) : cntBatchS y ≤ 1000 * b := by
  unfold bulkBatchS at h
  unfold cntBatchS
  have := preCBatch_bd y.l y.l.length
  omega
theorem cntBatchS_own {lo hi : Nat} {w : World} {y : Row BatchR} {b : Nat} (h : OwnBatchS lo hi w y) (hb : bulkBatchS y ≤ b) : cntBatchS y ≤ 1000 * b := cntBatchS_le h.nest.row.len hb
def markedBatch (k : Int) (x : BatchR) : BatchR := ⟨x.recsA, x.recsN, x.recsC, (mksRec (k) x.recsN)⟩
/-- After j of the marks. -/
def stLBatch (k : Int) (xs : List BatchR) (j : Nat) : List BatchR := (List.range xs.length).map fun i => if i < j then markedBatch (k + (preCBatch xs i : Int)) (atBatch xs i) else atBatch xs i
theorem stLBatch_len (k : Int) (xs : List BatchR) (j : Nat) : (stLBatch k xs j).length = xs.length := by simp [stLBatch]
theorem stLBatch_get (k : Int) (xs : List BatchR) (j i : Nat) (h : i < (stLBatch k xs j).length) : (stLBatch k xs j)[i] = if i < j then markedBatch (k + (preCBatch xs i : Int)) (atBatch xs i) else atBatch xs i := by simp [stLBatch]
theorem stLBatch_zero (k : Int) (xs : List BatchR) : stLBatch k xs 0 = xs := by
  apply List.ext_getElem
  · rw [stLBatch_len]
  · intro i h1 h2
    rw [stLBatch_get, if_neg (by omega), atBatch_eq xs i h2]
theorem stLBatch_set (k : Int) (xs : List BatchR) (j : Nat) (_h : j < xs.length) : (stLBatch k xs j).set j (markedBatch (k + (preCBatch xs j : Int)) (atBatch xs j)) = stLBatch k xs (j + 1) := by
  apply List.ext_getElem
  · rw [List.length_set, stLBatch_len, stLBatch_len]
  · intro i h1 h2
    rw [List.getElem_set, stLBatch_get _ _ _ _ h2]
    by_cases hji : j = i
    · subst hji; rw [if_pos rfl, if_pos (by omega)]
    · rw [if_neg hji, stLBatch_get]
      by_cases hi : i < j
      · rw [if_pos hi, if_pos (by omega)]
      · rw [if_neg hi, if_neg (by omega)]
def HeldBatchS (k : Int) (w : World) (y : Row BatchR) : Prop := (bulkBatchS y ≤ 2097152 ∧ y.l.length = y.n) ∧ RdN encBatch 1 encRec 3 slBatch w ⟨y.a, y.n, y.c, stLBatch k y.l y.l.length⟩
theorem HeldBatchS.below {k : Int} {w w' : World} {y : Row BatchR} (h : HeldBatchS k w y) (hb : Below w.heap.size w w') : HeldBatchS k w' y := ⟨h.1, h.2.below hb (Nat.le_refl _)⟩
theorem set_same {l : List Value} {i : Nat} {c : Value} (h : l[i]? = some c) : l.set i c = l := by
  obtain ⟨hi, rfl⟩ := List.getElem?_eq_some_iff.1 h
  exact List.set_getElem_self hi
set_option maxHeartbeats 3200000 in
theorem markBatchS_k (y : Row BatchR) (k : Int) (lo hi : Nat) (w : World) (h : OwnBatchS lo hi w y) (hn : bulkBatchS y ≤ 2097152) (hk0 : 0 ≤ k) (hk1 : k ≤ 1152921504606846976) :
    Calls Try.prog 18 #[.slice y.a y.n y.c, .int .i64 k] w fun e w' => e = .returned (.int .i64 (k + cntBatchS y)) ∧ HeldBatchS k w' y ∧ Win lo hi w w' := by
  obtain ⟨a, n, c, xs⟩ := y
  obtain ⟨hN0⟩ := h
  have hL := Lib.hid hN0.row.len
  simp only at hL ⊢
  have HBK := Lib.hid hn
  have hn2 : n + preBatch xs n ≤ 2097152 := by unfold bulkBatchS at hn; simp only at hn; rw [hL.out] at hn; exact hn
  have hcb := preCBatch_bd xs n
  have HCN : Hid (cntBatchS ⟨a, n, c, xs⟩ = preCBatch xs n) := Lib.hid (by unfold cntBatchS; simp only; rw [hL.out])
  rw [← stLBatch_zero k xs] at hN0
  clear hn
  go_enter Try.func18, Try.ntmps18
  go_wp2
  go_loopw [1, 5] (fun q i wr => ∃ j : Nat, j ≤ n ∧ i = .int .i64 j ∧ q = .int .i64 (k + (preCBatch xs j : Int)) ∧ OwnN encBatch 1 68 encRec 3 41 slBatch lo hi wr ⟨a, n, c, stLBatch k xs j⟩ ∧ Win lo hi w wr) (fun _ i _ => n - (intOf i).toNat)
  case atStart => exact ⟨0, Nat.zero_le _, rfl, by unfold preCBatch; simp, hN0, Win.refl _ _ _⟩
  case round =>
    obtain ⟨j, hj, rfl, rfl, hN, hb⟩ := hrel
    clear hN0
    by_cases hlt : j < n
    · obtain ⟨g, hga⟩ := own_some hN.row.own (by simp only; omega)
      simp only at hga
      subst hga
      have hg1 := (World.ownsRow.lt hN.row.own g rfl).1
      have hg2 := hN.row.lt g rfl
      have hjx : j < xs.length := by rw [hL.out]; exact hlt
      have hjl : j < (stLBatch k xs j).length := by rw [stLBatch_len]; exact hjx
      have hget : (stLBatch k xs j)[j]'hjl = atBatch xs j := by rw [stLBatch_get, if_neg (by omega)]
      obtain ⟨b', off', hbo, _, hc⟩ := (hN.row.rd lenBatch).rowBatch (by simp only; omega)
      simp only [Option.some.injEq, Addr.mk.injEq, and_true] at hbo
      obtain ⟨rfl, rfl⟩ := hbo
      have k0 := hc j hlt
      rw [atBatch_eq _ j hjl, hget] at k0
      simp only [Nat.zero_add] at k0
      have hps := preCBatch_succ xs j hjx
      have htop := preBatch_top xs j hjx
      rw [hL.out] at htop
      have hcj := preCBatch_bd xs j
      have hplj := preBatch_le xs (n - j) j
      rw [show j + (n - j) = n from by omega] at hplj
      have HP := Lib.hid hps
      have HSET := Lib.hid (stLBatch_set k xs j hjx)
      have HFL := Lib.hid (fun x' => by have q := flat_set encBatch 1 lenBatch (stLBatch k xs j) j hjl x'; rw [Nat.mul_one] at q; exact q)
      have hinn := hN.inner j hjl
      have hapt := fun g' hg' => hN.apart j hjl g' hg'
      simp only at hinn hapt
      rw [hget] at hinn
      have HAPT := Lib.hid (fun g' (hg' : blkR (slBatch (atBatch xs j)) = some g') => hapt g' (by rw [hget]; exact hg'))
      have HHDR : Hid (((stLBatch k xs j).flatMap encBatch)[j]? = some (.slice (atBatch xs j).recsA (atBatch xs j).recsN (atBatch xs j).recsC)) := Lib.hid (by rw [← hN.row.own.cellAt _ (by simp only; omega)]; exact k0)
      have HGET := Lib.hid hget
      clear hc hps hget hapt
      have hi1 : (j : Int) < (n : Int) := by omega
      generalize hx : atBatch xs j = x at *
      clear hx
      obtain ⟨kk, hkk⟩ : ∃ kk : Int, kk = k + (preCBatch xs j : Int) := ⟨_, rfl⟩
      rw [← hkk] at HSET ⊢
      have hkk0 : 0 ≤ kk := by omega
      have hkk1 : kk ≤ 2305843009213690000 := by omega
      have HKK := Lib.hid hkk
      clear hkk
      have hxn : x.recsN ≤ 2097152 := by unfold bulkBatch at htop; omega
      obtain ⟨l, u, htight, hlu⟩ := hinn.tight
      have hw1 : Win g (g + 1) wr wr := (Win.refl g (g + 1) wr)
      have HLU := Lib.hid hlu
      have HSL := Lib.hid hN.row.own
      have HN := Lib.hid hN
      have HW1 := Lib.hid hw1
      have hin1 : OwnS encRec 3 41 l u wr x.recsA x.recsN x.recsC x.recs := htight.keep (fun g' hg' => hw1.block g' (by have := htight.lt g' hg'; have := htight.top; omega) (by
        have hne : g' ≠ g := fun e => by subst e; exact HAPT.out g' hg' rfl
        omega)) (Nat.le_refl _) (Nat.le_trans htight.top hw1.size)
      clear hN hw1 hinn hlu
      go_wp2_with fail
      refine (markRecS_any _ _ _ _ (kk) l u _ hin1 (by omega) (by omega) (by omega)).mono ?_
      rintro e w2 ⟨rfl, ho2, hw2⟩
      have hglu : g < l ∨ u ≤ g := by
        by_cases c1 : l ≤ g ∧ g < u
        · exact absurd (HLU.out g c1.1 c1.2) (fun e => HAPT.out g e rfl)
        · omega
      have hNEW : OwnN encBatch 1 68 encRec 3 41 slBatch lo hi w2 ⟨some ⟨g, 0, none⟩, n, c, stLBatch k xs (j + 1)⟩ := by
        rw [← HSET.out]
        have hjl : j < (stLBatch k xs j).length := by rw [stLBatch_len, hL.out]; exact hlt
        have hsz1 := HW1.out.size
        have hsz2 := hw2.size
        refine HN.out.put j hjl (markedBatch kk x) ?_ ?_ ?_ ?_ (Nat.le_refl _) (Nat.le_trans HN.out.row.top (Nat.le_trans hsz1 hsz2))
        · have hlist : ((stLBatch k xs j).flatMap encBatch) = ((stLBatch k xs j).set j (markedBatch kk x)).flatMap encBatch := by
            rw [← HFL.out (markedBatch kk x)]
            refine (set_same (i := j) (c := .slice x.recsA x.recsN x.recsC) ?_).symm
            try simp only [List.getElem?_set]
            simp [HHDR.out]
          have hrow0 : World.ownsRow wr lo 68 1 (.slice (some ⟨g, 0, none⟩) n c) n (((stLBatch k xs j).set j (markedBatch kk x)).flatMap encBatch) := by rw [← hlist]; exact HSL.out
          exact ⟨by rw [List.length_set, stLBatch_len]; exact hL.out, own_keep hrow0 (fun g' hg' => by cases hg'; exact hw2.block g (by have := HN.out.row.top; omega) hglu), HN.out.row.lt, Nat.le_trans HN.out.row.top (Nat.le_trans hsz1 hsz2), HN.out.row.small⟩
        · have h3 := HN.out.inner j hjl
          rw [HGET.out] at h3
          exact ⟨ho2.len, own_rebase ho2.own (fun g' hg' => (World.ownsRow.lt h3.own g' hg').1), h3.lt, Nat.le_trans h3.top (Nat.le_trans hsz1 hsz2), ho2.small⟩
        · intro g' hg'
          left
          rw [HGET.out]
          exact hg'
        · intro q hq hne1 hne2
          rw [HGET.out] at hne2
          have hqg : q ≠ g := fun e => hne1 (by rw [e]; rfl)
          have hqlu : q < l ∨ u ≤ q := by
            by_cases c1 : l ≤ q ∧ q < u
            · exact absurd (HLU.out q c1.1 c1.2) hne2
            · omega
          rw [hw2.block q (by omega) hqlu, HW1.out.block q hq (by omega)]
      have hWN : Win lo hi w w2 := by
        have h3 := HN.out.inner j (by rw [stLBatch_len, hL.out]; exact hlt)
        rw [HGET.out] at h3
        refine hb.trans ((HW1.out.mono hg1 (by omega)).trans ⟨hw2.os, hw2.tape, hw2.output, hw2.size, fun q hq hqq => hw2.block q hq ?_⟩)
        by_cases c1 : l ≤ q ∧ q < u
        · have hbq := HLU.out q c1.1 c1.2
          have e1 := h3.lt q hbq
          have e2 := (World.ownsRow.lt h3.own q hbq).1
          omega
        · omega
      have hfin : kk + 3 * (x.recsN : Int) = k + (preCBatch xs (j + 1) : Int) := by
        rw [HP.out, HKK.out]
        unfold stepBatch cntBatch
        omega
      have HFIN := Lib.hid hfin
      have HNEW := Lib.hid hNEW
      clear hfin hNEW hin1 ho2 htight
      go_wp2
      go_roundw
      case rel => exact ⟨j + 1, by omega, by go_num, by rw [← HFIN.out] <;> go_num, HNEW.out, hWN⟩
      case measure => simp [intOf]; omega
    · obtain rfl : j = n := by omega
      go_wp2
      go_ret
      exact ⟨by rw [HCN.out] <;> rfl, ⟨⟨HBK.out, hL.out⟩, by have := hN.rd lenBatch lenRec; simp only; rw [hL.out]; exact this⟩, hb⟩
set_option maxHeartbeats 1600000 in
theorem heldBatchS_k (y : Row BatchR) (k : Int) (w : World) (h : HeldBatchS k w y) (hk0 : 0 ≤ k) (hk1 : k ≤ 1152921504606846976) :
    Calls Try.prog 19 #[.slice y.a y.n y.c, .int .i64 k] w fun e w' => e = .returned (.int .i64 (k + cntBatchS y)) ∧ Below w.heap.size w w' := by
  obtain ⟨a, n, c, xs⟩ := y
  obtain ⟨⟨hn, hl⟩, gr, gi⟩ := h
  simp only at hl gr gi ⊢
  have hL := Lib.hid hl
  have hm := gr.max
  have hle := gr.le
  unfold maxLen at hm
  have hn2 : n + preBatch xs n ≤ 2097152 := by unfold bulkBatchS at hn; simp only at hn; rw [hL.out] at hn; exact hn
  have hcb := preCBatch_bd xs n
  have HCN : Hid (cntBatchS ⟨a, n, c, xs⟩ = preCBatch xs n) := Lib.hid (by unfold cntBatchS; simp only; rw [hL.out])
  clear hn hl
  go_enter Try.func19, Try.ntmps19
  go_wp2
  go_loopw [1, 5] (fun q i wr => ∃ j : Nat, j ≤ n ∧ i = .int .i64 j ∧ q = .int .i64 (k + (preCBatch xs j : Int)) ∧ Below w.heap.size w wr) (fun _ i _ => n - (intOf i).toNat)
  case atStart => exact ⟨0, Nat.zero_le _, rfl, by unfold preCBatch; simp, Below.refl _ _⟩
  case round =>
    obtain ⟨j, hj, rfl, rfl, hb⟩ := hrel
    by_cases hlt : j < n
    · obtain ⟨b, off, rfl, hbl, hc⟩ := gr.rowBatch (by omega)
      have k0 := hc j hlt
      have cb : ∀ o, wr.cell? ⟨b, o, none⟩ = w.cell? ⟨b, o, none⟩ := fun o => hb.cell (p := ⟨b, o, none⟩) hbl
      have hjx : j < xs.length := by rw [hL.out]; exact hlt
      have hjl : j < (stLBatch k xs xs.length).length := by rw [stLBatch_len]; exact hjx
      have hget : (stLBatch k xs xs.length)[j]'hjl = markedBatch (k + (preCBatch xs j : Int)) (atBatch xs j) := by rw [stLBatch_get, if_pos hjx]
      rw [← cb, atBatch_eq _ j hjl, hget] at k0
      have rdx := gi _ (List.getElem_mem hjl)
      rw [hget] at rdx
      have rdx2 := rdx.below hb (Nat.le_refl _)
      have hps := preCBatch_succ xs j hjx
      have htop := preBatch_top xs j hjx
      rw [hL.out] at htop
      have hcj := preCBatch_bd xs j
      have hplj := preBatch_le xs (n - j) j
      rw [show j + (n - j) = n from by omega] at hplj
      have HP := Lib.hid hps
      have hi1 : (j : Int) < (n : Int) := by omega
      clear hc cb gi gr hps hget rdx
      generalize atBatch xs j = x at *
      obtain ⟨kk, hkk⟩ : ∃ kk : Int, kk = k + (preCBatch xs j : Int) := ⟨_, rfl⟩
      rw [← hkk] at k0 rdx2 ⊢
      have hkk0 : 0 ≤ kk := by omega
      have hkk1 : kk ≤ 2305843009213690000 := by omega
      have HKK := Lib.hid hkk
      clear hkk
      have hxn : x.recsN ≤ 2097152 := by unfold bulkBatch at htop; omega
      unfold markedBatch at k0 rdx2
      unfold slBatch at rdx2
      try simp only at k0 rdx2
      have hfin : kk + 3 * (x.recsN : Int) = k + (preCBatch xs (j + 1) : Int) := by
        rw [HP.out, HKK.out]
        unfold stepBatch cntBatch
        omega
      have HFIN := Lib.hid hfin
      clear hfin
      go_wp2_with fail
      refine (heldRecS_any _ _ _ (kk) _ rdx2 (by omega) (by omega) (by omega)).mono ?_
      rintro e w2 ⟨rfl, hb2⟩
      have hb3 := hb.trans (hb2.mono hb.size)
      go_wp2
      go_roundw
      case rel => exact ⟨j + 1, by omega, by go_num, by rw [← HFIN.out] <;> go_num, hb3⟩
      case measure => simp [intOf]; omega
    · obtain rfl : j = n := by omega
      go_wp2
      go_ret
      exact ⟨by rw [HCN.out] <;> rfl, hb⟩
end Go.Proofs.Ythffmjeodoinlaa

/- The kind FrameS: rows of Frame, each with a row of its own. -/
import Derived.Test.YtkgalkaafocnjaaFrameK
import Derived.Test.YtkgalkaafocnjaaNest
import Derived.Test.YtkgalkaafocnjaaKeep
namespace Go.Proofs.Ytkgalkaafocnjaa
open Go.RowKit
def zFrame : FrameR := ⟨0, none, 0, 0, []⟩
def atFrame (xs : List FrameR) (j : Nat) : FrameR := xs.getD j zFrame
theorem atFrame_eq (xs : List FrameR) (j : Nat) (h : j < xs.length) : atFrame xs j = xs[j] := by simp [atFrame, List.getD, h]
theorem lenFrame : ∀ x : FrameR, (encFrame x).length = 2 := fun _ => rfl
theorem Rd.rowFrame {w : World} {a : Option Addr} {n cap : Nat} {xs : List FrameR} (h : Rd encFrame 2 w a n cap xs) (hn : 0 < n) :
    ∃ b off, a = some ⟨b, off, none⟩ ∧ b < w.heap.size ∧ ∀ j, j < n → w.cell? ⟨b, off + j * 2, none⟩ = some (.int .i64 (atFrame xs j).kind) ∧ w.cell? ⟨b, off + j * 2 + 1, none⟩ = some (.slice (atFrame xs j).dataA (atFrame xs j).dataN (atFrame xs j).dataC) := by
  obtain ⟨b, off, ha, hl, hc⟩ := h.spot hn
  refine ⟨b, off, ha, hl, fun j hj => ?_⟩
  have hj' : j < xs.length := by rw [h.len]; exact hj
  rw [atFrame_eq xs j hj']
  exact ⟨hc j hj' 0 (.int .i64 xs[j].kind) rfl, hc j hj' 1 (.slice xs[j].dataA xs[j].dataN xs[j].dataC) rfl⟩
def slFrame (x : FrameR) : Row Int := ⟨x.dataA, x.dataN, x.dataC, x.data⟩
def datFrameS (y : Row FrameR) : List (Int × List Int) := y.l.map datFrame
def rdFrameS (w : World) (y : Row FrameR) : Prop := RdN encFrame 2 (encI .u8) 1 slFrame w y
theorem rdFrameS_below {w w' : World} {y : Row FrameR} (h : rdFrameS w y) {B : Nat} (hb : Below B w w') (hB : w.heap.size ≤ B) : rdFrameS w' y := RdN.below h hb hB
structure OwnFrameS (lo hi : Nat) (w : World) (y : Row FrameR) : Prop where
  nest : OwnN encFrame 2 43 (encI .u8) 1 5 slFrame lo hi w y
theorem OwnFrameS.below {lo hi : Nat} {w w' : World} {y : Row FrameR} (h : OwnFrameS lo hi w y) (hb : Below w.heap.size w w') : OwnFrameS lo hi w' y := ⟨h.nest.below hb⟩
theorem OwnFrameS.win {lo hi lo' hi' : Nat} {w w' : World} {y : Row FrameR} (h : OwnFrameS lo hi w y) (hw : Win lo' hi' w w') (hd : hi' ≤ lo ∨ hi ≤ lo') : OwnFrameS lo hi w' y := ⟨h.nest.win hw hd⟩
theorem OwnFrameS.lo_le {lo hi lo' : Nat} {w : World} {y : Row FrameR} (h : OwnFrameS lo hi w y) (hl : lo' ≤ lo) : OwnFrameS lo' hi w y := ⟨h.nest.lo_le hl⟩
theorem OwnFrameS.rd {lo hi : Nat} {w : World} {y : Row FrameR} (h : OwnFrameS lo hi w y) : rdFrameS w y := h.nest.rd lenFrame (show ∀ x, (encI .u8 x).length = 1 from fun _ => rfl)
def preFrame (xs : List FrameR) (j : Nat) : Nat := ((xs.take j).map bulkFrame).sum
theorem preFrame_succ (xs : List FrameR) (j : Nat) (h : j < xs.length) : preFrame xs (j + 1) = preFrame xs j + bulkFrame (atFrame xs j) := by
  unfold preFrame
  rw [List.take_succ_eq_append_getElem h, atFrame_eq xs j h, List.map_append, List.sum_append]
  simp only [List.map_cons, List.map_nil, List.sum_cons, List.sum_nil, Nat.add_zero]
theorem preFrame_le (xs : List FrameR) : ∀ d j, preFrame xs j ≤ preFrame xs (j + d) := by
  intro d
  induction d with
  | zero => intro j; exact Nat.le_refl _
  | succ d ih =>
    intro j
    refine Nat.le_trans (ih j) ?_
    by_cases h : j + d < xs.length
    · rw [show j + (d + 1) = j + d + 1 from by omega, preFrame_succ xs _ h]; omega
    · unfold preFrame
      rw [List.take_of_length_le (show xs.length ≤ j + d by omega), List.take_of_length_le (show xs.length ≤ j + (d + 1) by omega)]
      exact Nat.le_refl _
theorem preFrame_top (xs : List FrameR) (j : Nat) (h : j < xs.length) : preFrame xs j + bulkFrame (atFrame xs j) ≤ preFrame xs xs.length := by
  rw [← preFrame_succ xs j h]
  have := preFrame_le xs (xs.length - (j + 1)) (j + 1)
  rw [show j + 1 + (xs.length - (j + 1)) = xs.length from by omega] at this
  exact this
def bulkFrameS (y : Row FrameR) : Nat := y.n + preFrame y.l y.l.length
theorem take_succ_datFrame {xs ys : List FrameR} {k : Nat} (h : (xs.take k).map datFrame = (ys.take k).map datFrame) (h1 : k < xs.length) (h2 : k < ys.length) (he : datFrame (atFrame xs k) = datFrame (atFrame ys k)) : (xs.take (k + 1)).map datFrame = (ys.take (k + 1)).map datFrame := by
  rw [List.take_succ_eq_append_getElem h1, List.take_succ_eq_append_getElem h2, List.map_append, List.map_append, h]
  rw [atFrame_eq xs k h1, atFrame_eq ys k h2] at he
  simp [he]
theorem ne_datFrame {xs ys : List FrameR} {k : Nat} (h1 : k < xs.length) (h2 : k < ys.length) (he : ¬ datFrame (atFrame xs k) = datFrame (atFrame ys k)) : ¬ xs.map datFrame = ys.map datFrame := by
  intro h
  apply he
  have := congrArg (fun l => l[k]?) h
  simp only [List.getElem?_map, List.getElem?_eq_getElem h1, List.getElem?_eq_getElem h2, Option.map_some, Option.some.injEq] at this
  rw [atFrame_eq xs k h1, atFrame_eq ys k h2]
  exact this
set_option maxHeartbeats 3200000 in
theorem eqFrameS_any (a b : Option Addr) (n cap m cap' : Nat) (xs ys : List FrameR) (w : World) (h : rdFrameS w ⟨a, n, cap, xs⟩) (h' : rdFrameS w ⟨b, m, cap', ys⟩) :
    Calls Try.prog 44 #[.slice a n cap, .slice b m cap'] w fun e w' => e = .returned (.bool (decide (xs.map datFrame = ys.map datFrame))) ∧ Below w.heap.size w w' := by
  obtain ⟨gr, gi⟩ := h
  obtain ⟨gr', gi'⟩ := h'
  simp only at gr gi gr' gi'
  have hL := Lib.hid gr.len
  have hL' := Lib.hid gr'.len
  have hm := gr.max
  have hle := gr.le
  have hm' := gr'.max
  have hle' := gr'.le
  unfold maxLen at hm hm'
  by_cases hnm : n = m
  · subst hnm
    go_enter Try.func44, Try.ntmps44
    go_wp2
    go_loopw [5] (fun i wr => ∃ k : Nat, k ≤ n ∧ i = .int .i64 k ∧ (xs.take k).map datFrame = (ys.take k).map datFrame ∧ Below w.heap.size w wr) (fun i _ => n - (intOf i).toNat)
    case atStart => exact ⟨0, Nat.zero_le _, rfl, rfl, Below.refl _ _⟩
    case round =>
      obtain ⟨k, hk, rfl, he, hb⟩ := hrel
      have HE := Lib.hid he
      clear he
      by_cases hlt : k < n
      · obtain ⟨b1, off1, rfl, hbl1, hc1⟩ := gr.rowFrame (by omega)
        obtain ⟨b2, off2, rfl, hbl2, hc2⟩ := gr'.rowFrame (by omega)
        obtain ⟨k0, k1⟩ := hc1 k hlt
        obtain ⟨l0, l1⟩ := hc2 k hlt
        have cb1 : ∀ o, wr.cell? ⟨b1, o, none⟩ = w.cell? ⟨b1, o, none⟩ := fun o => hb.cell (p := ⟨b1, o, none⟩) hbl1
        have cb2 : ∀ o, wr.cell? ⟨b2, o, none⟩ = w.cell? ⟨b2, o, none⟩ := fun o => hb.cell (p := ⟨b2, o, none⟩) hbl2
        rw [← cb1] at k0 k1
        rw [← cb2] at l0 l1
        have kx : k < xs.length := by rw [hL.out]; exact hlt
        have ky : k < ys.length := by rw [hL'.out]; exact hlt
        have rx : rdFrame wr (atFrame xs k) := by rw [atFrame_eq xs k kx]; exact rdFrame_below (gi _ (List.getElem_mem kx)) hb (Nat.le_refl _)
        have ry : rdFrame wr (atFrame ys k) := by rw [atFrame_eq ys k ky]; exact rdFrame_below (gi' _ (List.getElem_mem ky)) hb (Nat.le_refl _)
        clear hc1 hc2 cb1 cb2 gr gr' gi gi'
        have hi1 : (k : Int) < (n : Int) := by omega
        have HT := Lib.hid (fun he => take_succ_datFrame HE.out kx ky he)
        have HN := Lib.hid (fun he => ne_datFrame kx ky he)
        have HRX := Lib.hid rx
        have HRY := Lib.hid ry
        clear rx ry
        generalize hx : atFrame xs k = x at *
        generalize hy : atFrame ys k = y at *
        clear hx hy
        go_wp2_with fail
        go_region_held3 (fun w' => w'.cell? ⟨b1, off1 + k * 2, none⟩ = some (.int .i64 x.kind) ∧ w'.cell? ⟨b1, off1 + k * 2 + 1, none⟩ = some (.slice x.dataA x.dataN x.dataC) ∧ w'.cell? ⟨b2, off2 + k * 2, none⟩ = some (.int .i64 y.kind) ∧ w'.cell? ⟨b2, off2 + k * 2 + 1, none⟩ = some (.slice y.dataA y.dataN y.dataC) ∧ Below wr.heap.size wr w') (first | exact keepd4 (by assumption) | exact keep4 (by assumption) (Nat.le_refl _) (by assumption) | exact ⟨k0, k1, l0, l1, (Below.refl _ _).drew⟩) (first | (go_at_call 35; refine (eqFrame_k x y _ _ rfl rfl _ (rdFrame_below HRX.out (tail4 (by assumption) : Below wr.heap.size wr _) (Nat.le_refl _)) (rdFrame_below HRY.out (tail4 (by assumption) : Below wr.heap.size wr _) (Nat.le_refl _))).mono ?_; rintro e wa ⟨rfl, hba⟩))
        have hb2 : Below wr.heap.size wr _ := tail4 (by assumption)
        have hb3 := hb.trans (hb2.mono hb.size)
        by_cases hxy : datFrame x = datFrame y
        · have HQ := Lib.hid (decide_eq_true hxy)
          have HT2 := Lib.hid (HT.out hxy)
          rw [HQ.out]
          clear hxy HT HN
          go_wp2
          go_roundw
          case rel => exact ⟨k + 1, by omega, by go_num, HT2.out, hb3⟩
          case measure => simp [intOf]; omega
        · have HQ := Lib.hid (decide_eq_false hxy)
          have HT2 := Lib.hid (decide_eq_false (HN.out hxy))
          rw [HQ.out]
          clear hxy HT HN
          go_wp2
          go_ret
          exact ⟨by rw [HT2.out] <;> rfl, hb3⟩
      · obtain rfl : k = n := by omega
        go_wp2
        go_ret
        refine ⟨?_, hb⟩
        have := HE.out
        rw [List.take_of_length_le (by rw [hL.out]; exact Nat.le_refl _), List.take_of_length_le (by rw [hL'.out]; exact Nat.le_refl _)] at this
        simp [this]
  · have hne : ¬ xs.map datFrame = ys.map datFrame := fun e => hnm (by have := congrArg List.length e; simp only [List.length_map] at this; rw [← hL.out, ← hL'.out, this])
    have hi1 : ((n : Int) != (m : Int)) = true := by simp; omega
    go_enter Try.func44, Try.ntmps44
    go_wp2
    go_ret
    exact ⟨by simp [hne], Below.refl _ _⟩
theorem eqFrameS_k (x y : Row FrameR) (D D' : List (Int × List Int)) (hD : datFrameS x = D) (hD' : datFrameS y = D') (w : World) (h : rdFrameS w x) (h' : rdFrameS w y) :
    Calls Try.prog 44 #[.slice x.a x.n x.c, .slice y.a y.n y.c] w fun e w' => e = .returned (.bool (decide (D = D'))) ∧ Below w.heap.size w w' := by
  subst hD
  subst hD'
  exact eqFrameS_any _ _ _ _ _ _ _ _ _ h h'
def stepFrame (x : FrameR) : Nat := 1 + cntFrame x
def preCFrame (xs : List FrameR) (j : Nat) : Nat := ((xs.take j).map stepFrame).sum
theorem preCFrame_succ (xs : List FrameR) (j : Nat) (h : j < xs.length) : preCFrame xs (j + 1) = preCFrame xs j + stepFrame (atFrame xs j) := by
  unfold preCFrame
  rw [List.take_succ_eq_append_getElem h, atFrame_eq xs j h, List.map_append, List.sum_append]
  simp only [List.map_cons, List.map_nil, List.sum_cons, List.sum_nil, Nat.add_zero]
theorem preCFrame_bd (xs : List FrameR) (j : Nat) : preCFrame xs j ≤ 1000 * (j + preFrame xs j) := by
  induction j with
  | zero => simp [preCFrame]
  | succ j ih =>
    by_cases h : j < xs.length
    · rw [preCFrame_succ xs j h, preFrame_succ xs j h]
      have := cntFrame_le (y := atFrame xs j) (b := bulkFrame (atFrame xs j)) (Nat.le_refl _)
      unfold stepFrame
      omega
    · have e1 : preCFrame xs (j + 1) = preCFrame xs j := by unfold preCFrame; rw [List.take_of_length_le (by omega), List.take_of_length_le (show xs.length ≤ j by omega)]
      have e2 : preFrame xs (j + 1) = preFrame xs j := by unfold preFrame; rw [List.take_of_length_le (by omega), List.take_of_length_le (show xs.length ≤ j by omega)]
      rw [e1, e2]
      omega
def cntFrameS (y : Row FrameR) : Nat := preCFrame y.l y.l.length
theorem cntFrameS_le {y : Row FrameR} {b : Nat} (hl : y.l.length = y.n) (h : bulkFrameS y ≤ b) : cntFrameS y ≤ 1000 * b := by
  unfold bulkFrameS at h
  unfold cntFrameS
  have := preCFrame_bd y.l y.l.length
  omega
theorem cntFrameS_own {lo hi : Nat} {w : World} {y : Row FrameR} {b : Nat} (h : OwnFrameS lo hi w y) (hb : bulkFrameS y ≤ b) : cntFrameS y ≤ 1000 * b := cntFrameS_le h.nest.row.len hb
def markedFrame (k : Int) (x : FrameR) : FrameR := ⟨k, x.dataA, x.dataN, x.dataC, (mks by8 (k + 1) x.dataN)⟩
/-- After j of the marks. -/
def stLFrame (k : Int) (xs : List FrameR) (j : Nat) : List FrameR := (List.range xs.length).map fun i => if i < j then markedFrame (k + (preCFrame xs i : Int)) (atFrame xs i) else atFrame xs i
theorem stLFrame_len (k : Int) (xs : List FrameR) (j : Nat) : (stLFrame k xs j).length = xs.length := by simp [stLFrame]
theorem stLFrame_get (k : Int) (xs : List FrameR) (j i : Nat) (h : i < (stLFrame k xs j).length) : (stLFrame k xs j)[i] = if i < j then markedFrame (k + (preCFrame xs i : Int)) (atFrame xs i) else atFrame xs i := by simp [stLFrame]
theorem stLFrame_zero (k : Int) (xs : List FrameR) : stLFrame k xs 0 = xs := by
  apply List.ext_getElem
  · rw [stLFrame_len]
  · intro i h1 h2
    rw [stLFrame_get, if_neg (by omega), atFrame_eq xs i h2]
theorem stLFrame_set (k : Int) (xs : List FrameR) (j : Nat) (_h : j < xs.length) : (stLFrame k xs j).set j (markedFrame (k + (preCFrame xs j : Int)) (atFrame xs j)) = stLFrame k xs (j + 1) := by
  apply List.ext_getElem
  · rw [List.length_set, stLFrame_len, stLFrame_len]
  · intro i h1 h2
    rw [List.getElem_set, stLFrame_get _ _ _ _ h2]
    by_cases hji : j = i
    · subst hji; rw [if_pos rfl, if_pos (by omega)]
    · rw [if_neg hji, stLFrame_get]
      by_cases hi : i < j
      · rw [if_pos hi, if_pos (by omega)]
      · rw [if_neg hi, if_neg (by omega)]
def HeldFrameS (k : Int) (w : World) (y : Row FrameR) : Prop := (bulkFrameS y ≤ 1048576 ∧ y.l.length = y.n) ∧ RdN encFrame 2 (encI .u8) 1 slFrame w ⟨y.a, y.n, y.c, stLFrame k y.l y.l.length⟩
theorem HeldFrameS.below {k : Int} {w w' : World} {y : Row FrameR} (h : HeldFrameS k w y) (hb : Below w.heap.size w w') : HeldFrameS k w' y := ⟨h.1, h.2.below hb (Nat.le_refl _)⟩
theorem set_same {l : List Value} {i : Nat} {c : Value} (h : l[i]? = some c) : l.set i c = l := by
  obtain ⟨hi, rfl⟩ := List.getElem?_eq_some_iff.1 h
  exact List.set_getElem_self hi
set_option maxHeartbeats 3200000 in
theorem markFrameS_k (y : Row FrameR) (k : Int) (lo hi : Nat) (w : World) (h : OwnFrameS lo hi w y) (hn : bulkFrameS y ≤ 1048576) (hk0 : 0 ≤ k) (hk1 : k ≤ 1152921504606846976) :
    Calls Try.prog 45 #[.slice y.a y.n y.c, .int .i64 k] w fun e w' => e = .returned (.int .i64 (k + cntFrameS y)) ∧ HeldFrameS k w' y ∧ Win lo hi w w' := by
  obtain ⟨a, n, c, xs⟩ := y
  obtain ⟨hN0⟩ := h
  have hL := Lib.hid hN0.row.len
  simp only at hL ⊢
  have HBK := Lib.hid hn
  have hn2 : n + preFrame xs n ≤ 1048576 := by unfold bulkFrameS at hn; simp only at hn; rw [hL.out] at hn; exact hn
  have hcb := preCFrame_bd xs n
  have HCN : Hid (cntFrameS ⟨a, n, c, xs⟩ = preCFrame xs n) := Lib.hid (by unfold cntFrameS; simp only; rw [hL.out])
  rw [← stLFrame_zero k xs] at hN0
  clear hn
  go_enter Try.func45, Try.ntmps45
  go_wp2
  go_loopw [1, 5] (fun q i wr => ∃ j : Nat, j ≤ n ∧ i = .int .i64 j ∧ q = .int .i64 (k + (preCFrame xs j : Int)) ∧ OwnN encFrame 2 43 (encI .u8) 1 5 slFrame lo hi wr ⟨a, n, c, stLFrame k xs j⟩ ∧ Win lo hi w wr) (fun _ i _ => n - (intOf i).toNat)
  case atStart => exact ⟨0, Nat.zero_le _, rfl, by unfold preCFrame; simp, hN0, Win.refl _ _ _⟩
  case round =>
    obtain ⟨j, hj, rfl, rfl, hN, hb⟩ := hrel
    clear hN0
    by_cases hlt : j < n
    · obtain ⟨g, hga⟩ := own_some hN.row.own (by simp only; omega)
      simp only at hga
      subst hga
      have hg1 := (World.ownsRow.lt hN.row.own g rfl).1
      have hg2 := hN.row.lt g rfl
      have hjx : j < xs.length := by rw [hL.out]; exact hlt
      have hjl : j < (stLFrame k xs j).length := by rw [stLFrame_len]; exact hjx
      have hget : (stLFrame k xs j)[j]'hjl = atFrame xs j := by rw [stLFrame_get, if_neg (by omega)]
      obtain ⟨b', off', hbo, _, hc⟩ := (hN.row.rd lenFrame).rowFrame (by simp only; omega)
      simp only [Option.some.injEq, Addr.mk.injEq, and_true] at hbo
      obtain ⟨rfl, rfl⟩ := hbo
      obtain ⟨k0, k1⟩ := hc j hlt
      rw [atFrame_eq _ j hjl, hget] at k0 k1
      simp only [Nat.zero_add] at k0 k1
      have hps := preCFrame_succ xs j hjx
      have htop := preFrame_top xs j hjx
      rw [hL.out] at htop
      have hcj := preCFrame_bd xs j
      have hplj := preFrame_le xs (n - j) j
      rw [show j + (n - j) = n from by omega] at hplj
      have HP := Lib.hid hps
      have HSET := Lib.hid (stLFrame_set k xs j hjx)
      have HFL := Lib.hid (fun x' => flat_set encFrame 2 lenFrame (stLFrame k xs j) j hjl x')
      have hinn := hN.inner j hjl
      have hapt := fun g' hg' => hN.apart j hjl g' hg'
      simp only at hinn hapt
      rw [hget] at hinn
      have HAPT := Lib.hid (fun g' (hg' : blkR (slFrame (atFrame xs j)) = some g') => hapt g' (by rw [hget]; exact hg'))
      have HHDR : Hid (((stLFrame k xs j).flatMap encFrame)[j * 2 + 1]? = some (.slice (atFrame xs j).dataA (atFrame xs j).dataN (atFrame xs j).dataC)) := Lib.hid (by rw [← hN.row.own.cellAt _ (by simp only; omega)]; exact k1)
      have HGET := Lib.hid hget
      clear hc hps hget hapt
      have hi1 : (j : Int) < (n : Int) := by omega
      generalize hx : atFrame xs j = x at *
      clear hx
      obtain ⟨kk, hkk⟩ : ∃ kk : Int, kk = k + (preCFrame xs j : Int) := ⟨_, rfl⟩
      rw [← hkk] at HSET ⊢
      have hkk0 : 0 ≤ kk := by omega
      have hkk1 : kk ≤ 2305843009213690000 := by omega
      have HKK := Lib.hid hkk
      clear hkk
      have hxn : x.dataN ≤ 1048576 := by unfold bulkFrame at htop; omega
      obtain ⟨l, u, htight, hlu⟩ := hinn.tight
      have hf0 := hN.row.own.frozenAt (j * 2)
      have s0 := (hN.row.own.stored (j * 2) (.int .i64 (kk))).1
      have hw1 : Win g (g + 1) wr (wr.setCell ⟨g, j * 2, none⟩ (.int .i64 (kk))) := ((Win.refl g (g + 1) wr).trans (Win.set _ g (j * 2) (.int .i64 (kk)) (Nat.le_refl _) (Nat.lt_succ_self _)))
      have HLU := Lib.hid hlu
      have HSL := Lib.hid s0
      have HN := Lib.hid hN
      have HW1 := Lib.hid hw1
      have hin1 : OwnS (encI .u8) 1 5 l u (wr.setCell ⟨g, j * 2, none⟩ (.int .i64 (kk))) x.dataA x.dataN x.dataC x.data := htight.keep (fun g' hg' => hw1.block g' (by have := htight.lt g' hg'; have := htight.top; omega) (by
        have hne : g' ≠ g := fun e => by subst e; exact HAPT.out g' hg' rfl
        omega)) (Nat.le_refl _) (Nat.le_trans htight.top hw1.size)
      clear hN hw1 hinn hlu
      go_wp2_with fail
      refine (markByteS_s _ _ _ _ (kk + 1) l u _ hin1 (by omega) (by omega) (by omega)).mono ?_
      rintro e w2 ⟨rfl, ho2, hw2⟩
      have hglu : g < l ∨ u ≤ g := by
        by_cases c1 : l ≤ g ∧ g < u
        · exact absurd (HLU.out g c1.1 c1.2) (fun e => HAPT.out g e rfl)
        · omega
      have hNEW : OwnN encFrame 2 43 (encI .u8) 1 5 slFrame lo hi w2 ⟨some ⟨g, 0, none⟩, n, c, stLFrame k xs (j + 1)⟩ := by
        rw [← HSET.out]
        have hjl : j < (stLFrame k xs j).length := by rw [stLFrame_len, hL.out]; exact hlt
        have hsz1 := HW1.out.size
        have hsz2 := hw2.size
        refine HN.out.put j hjl (markedFrame kk x) ?_ ?_ ?_ ?_ (Nat.le_refl _) (Nat.le_trans HN.out.row.top (Nat.le_trans hsz1 hsz2))
        · have hlist : (((stLFrame k xs j).flatMap encFrame).set (j * 2) (.int .i64 (kk))) = ((stLFrame k xs j).set j (markedFrame kk x)).flatMap encFrame := by
            rw [← HFL.out (markedFrame kk x)]
            refine (set_same (i := j * 2 + 1) (c := .slice x.dataA x.dataN x.dataC) ?_).symm
            try simp only [List.getElem?_set]
            simp [HHDR.out]
          have hrow0 : World.ownsRow (wr.setCell ⟨g, j * 2, none⟩ (.int .i64 (kk))) lo 43 2 (.slice (some ⟨g, 0, none⟩) n c) n (((stLFrame k xs j).set j (markedFrame kk x)).flatMap encFrame) := by rw [← hlist]; exact HSL.out
          exact ⟨by rw [List.length_set, stLFrame_len]; exact hL.out, own_keep hrow0 (fun g' hg' => by cases hg'; exact hw2.block g (by have := HN.out.row.top; omega) hglu), HN.out.row.lt, Nat.le_trans HN.out.row.top (Nat.le_trans hsz1 hsz2), HN.out.row.small⟩
        · have h3 := HN.out.inner j hjl
          rw [HGET.out] at h3
          exact ⟨ho2.len, own_rebase ho2.own (fun g' hg' => (World.ownsRow.lt h3.own g' hg').1), h3.lt, Nat.le_trans h3.top (Nat.le_trans hsz1 hsz2), ho2.small⟩
        · intro g' hg'
          left
          rw [HGET.out]
          exact hg'
        · intro q hq hne1 hne2
          rw [HGET.out] at hne2
          have hqg : q ≠ g := fun e => hne1 (by rw [e]; rfl)
          have hqlu : q < l ∨ u ≤ q := by
            by_cases c1 : l ≤ q ∧ q < u
            · exact absurd (HLU.out q c1.1 c1.2) hne2
            · omega
          rw [hw2.block q (by omega) hqlu, HW1.out.block q hq (by omega)]
      have hWN : Win lo hi w w2 := by
        have h3 := HN.out.inner j (by rw [stLFrame_len, hL.out]; exact hlt)
        rw [HGET.out] at h3
        refine hb.trans ((HW1.out.mono hg1 (by omega)).trans ⟨hw2.os, hw2.tape, hw2.output, hw2.size, fun q hq hqq => hw2.block q hq ?_⟩)
        by_cases c1 : l ≤ q ∧ q < u
        · have hbq := HLU.out q c1.1 c1.2
          have e1 := h3.lt q hbq
          have e2 := (World.ownsRow.lt h3.own q hbq).1
          omega
        · omega
      have hfin : kk + 1 + (x.dataN : Int) = k + (preCFrame xs (j + 1) : Int) := by
        rw [HP.out, HKK.out]
        unfold stepFrame cntFrame
        omega
      have HFIN := Lib.hid hfin
      have HNEW := Lib.hid hNEW
      clear hfin hNEW hin1 ho2 htight
      go_wp2
      go_roundw
      case rel => exact ⟨j + 1, by omega, by go_num, by rw [← HFIN.out] <;> go_num, HNEW.out, hWN⟩
      case measure => simp [intOf]; omega
    · obtain rfl : j = n := by omega
      go_wp2
      go_ret
      exact ⟨by rw [HCN.out] <;> rfl, ⟨⟨HBK.out, hL.out⟩, by have := hN.rd lenFrame (show ∀ x, (encI .u8 x).length = 1 from fun _ => rfl); simp only; rw [hL.out]; exact this⟩, hb⟩
set_option maxHeartbeats 1600000 in
theorem heldFrameS_k (y : Row FrameR) (k : Int) (w : World) (h : HeldFrameS k w y) (hk0 : 0 ≤ k) (hk1 : k ≤ 1152921504606846976) :
    Calls Try.prog 46 #[.slice y.a y.n y.c, .int .i64 k] w fun e w' => e = .returned (.int .i64 (k + cntFrameS y)) ∧ Below w.heap.size w w' := by
  obtain ⟨a, n, c, xs⟩ := y
  obtain ⟨⟨hn, hl⟩, gr, gi⟩ := h
  simp only at hl gr gi ⊢
  have hL := Lib.hid hl
  have hm := gr.max
  have hle := gr.le
  unfold maxLen at hm
  have hn2 : n + preFrame xs n ≤ 1048576 := by unfold bulkFrameS at hn; simp only at hn; rw [hL.out] at hn; exact hn
  have hcb := preCFrame_bd xs n
  have HCN : Hid (cntFrameS ⟨a, n, c, xs⟩ = preCFrame xs n) := Lib.hid (by unfold cntFrameS; simp only; rw [hL.out])
  clear hn hl
  go_enter Try.func46, Try.ntmps46
  go_wp2
  go_loopw [1, 5] (fun q i wr => ∃ j : Nat, j ≤ n ∧ i = .int .i64 j ∧ q = .int .i64 (k + (preCFrame xs j : Int)) ∧ Below w.heap.size w wr) (fun _ i _ => n - (intOf i).toNat)
  case atStart => exact ⟨0, Nat.zero_le _, rfl, by unfold preCFrame; simp, Below.refl _ _⟩
  case round =>
    obtain ⟨j, hj, rfl, rfl, hb⟩ := hrel
    by_cases hlt : j < n
    · obtain ⟨b, off, rfl, hbl, hc⟩ := gr.rowFrame (by omega)
      obtain ⟨k0, k1⟩ := hc j hlt
      have cb : ∀ o, wr.cell? ⟨b, o, none⟩ = w.cell? ⟨b, o, none⟩ := fun o => hb.cell (p := ⟨b, o, none⟩) hbl
      have hjx : j < xs.length := by rw [hL.out]; exact hlt
      have hjl : j < (stLFrame k xs xs.length).length := by rw [stLFrame_len]; exact hjx
      have hget : (stLFrame k xs xs.length)[j]'hjl = markedFrame (k + (preCFrame xs j : Int)) (atFrame xs j) := by rw [stLFrame_get, if_pos hjx]
      rw [← cb, atFrame_eq _ j hjl, hget] at k0 k1
      have rdx := gi _ (List.getElem_mem hjl)
      rw [hget] at rdx
      have rdx2 := rdx.below hb (Nat.le_refl _)
      have hps := preCFrame_succ xs j hjx
      have htop := preFrame_top xs j hjx
      rw [hL.out] at htop
      have hcj := preCFrame_bd xs j
      have hplj := preFrame_le xs (n - j) j
      rw [show j + (n - j) = n from by omega] at hplj
      have HP := Lib.hid hps
      have hi1 : (j : Int) < (n : Int) := by omega
      clear hc cb gi gr hps hget rdx
      generalize atFrame xs j = x at *
      obtain ⟨kk, hkk⟩ : ∃ kk : Int, kk = k + (preCFrame xs j : Int) := ⟨_, rfl⟩
      rw [← hkk] at k0 k1 rdx2 ⊢
      have hkk0 : 0 ≤ kk := by omega
      have hkk1 : kk ≤ 2305843009213690000 := by omega
      have HKK := Lib.hid hkk
      clear hkk
      have hxn : x.dataN ≤ 1048576 := by unfold bulkFrame at htop; omega
      unfold markedFrame at k0 k1 rdx2
      unfold slFrame at rdx2
      try simp only at k0 k1 rdx2
      have hfin : kk + 1 + (x.dataN : Int) = k + (preCFrame xs (j + 1) : Int) := by
        rw [HP.out, HKK.out]
        unfold stepFrame cntFrame
        omega
      have HFIN := Lib.hid hfin
      clear hfin
      go_wp2_with fail
      refine (heldByteS_s _ _ _ (kk + 1) _ rdx2 (by omega) (by omega) (by omega)).mono ?_
      rintro e w2 ⟨rfl, hb2⟩
      have hb3 := hb.trans (hb2.mono hb.size)
      go_wp2
      go_roundw
      case rel => exact ⟨j + 1, by omega, by go_num, by rw [← HFIN.out] <;> go_num, hb3⟩
      case measure => simp [intOf]; omega
    · obtain rfl : j = n := by omega
      go_wp2
      go_ret
      exact ⟨by rw [HCN.out] <;> rfl, hb⟩
end Go.Proofs.Ytkgalkaafocnjaa

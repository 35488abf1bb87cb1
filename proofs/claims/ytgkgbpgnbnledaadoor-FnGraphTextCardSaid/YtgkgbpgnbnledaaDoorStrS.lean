/- Rows of strings: the helpers eqStringS, markText, markStringS, heldStringS of the statements. -/
import Derived.Test.YtgkgbpgnbnledaaDoorRows
import Derived.Test.YtgkgbpgnbnledaaDoorRowS
import Derived.Test.YtgkgbpgnbnledaaDoorOwn
import Derived.Test.YtgkgbpgnbnledaaDoorKeep
import Derived.Test.YtgkgbpgnbnledaaDoorTxt
namespace Go.Proofs.YtgkgbpgnbnledaaDoor
open Go.RowKit
def encS (s : ByteArray) : List Value := [.string s]
theorem lenS : ∀ x : ByteArray, (encS x).length = 1 := fun _ => rfl
theorem flat_encS (xs : List ByteArray) : xs.flatMap encS = xs.map Value.string := by
  induction xs with
  | nil => rfl
  | cons a r ih => simp [encS, List.flatMap_cons] at *; exact ih
def atS (xs : List ByteArray) (j : Nat) : ByteArray := xs.getD j ⟨#[]⟩
theorem atS_eq (xs : List ByteArray) (j : Nat) (h : j < xs.length) : atS xs j = xs[j] := by simp [atS, List.getD, h]
theorem Rd.strs {w : World} {a : Option Addr} {n cap : Nat} {xs : List ByteArray} (h : Rd encS 1 w a n cap xs) (hn : 0 < n) :
    ∃ b off, a = some ⟨b, off, none⟩ ∧ b < w.heap.size ∧ ∀ j, j < n → w.cell? ⟨b, off + j, none⟩ = some (.string (atS xs j)) := by
  obtain ⟨b, off, ha, hl, hc⟩ := h.spot hn
  refine ⟨b, off, ha, hl, fun j hj => ?_⟩
  have hj' : j < xs.length := by rw [h.len]; exact hj
  have := hc j hj' 0 (.string xs[j]) (by simp [encS])
  rw [atS_eq xs j hj']
  simpa using this
theorem take_succS {xs ys : List ByteArray} {k : Nat} (h : xs.take k = ys.take k) (h1 : k < xs.length) (h2 : k < ys.length) (he : atS xs k = atS ys k) : xs.take (k + 1) = ys.take (k + 1) := by
  rw [List.take_succ_eq_append_getElem h1, List.take_succ_eq_append_getElem h2, h]
  rw [atS_eq xs k h1, atS_eq ys k h2] at he
  rw [he]
set_option maxHeartbeats 800000 in
theorem eqStringS_any (a b : Option Addr) (n cap m cap' : Nat) (xs ys : List ByteArray) (w : World) (h : Rd encS 1 w a n cap xs) (h' : Rd encS 1 w b m cap' ys) :
    Calls Tryd.prog 14 #[.slice a n cap, .slice b m cap'] w fun e w' => e = .returned (.bool (decide (xs = ys))) ∧ Below w.heap.size w w' := by
  have hL := Lib.hid h.len
  have hL' := Lib.hid h'.len
  have hm := h.max
  have hle := h.le
  have hm' := h'.max
  have hle' := h'.le
  unfold maxLen at hm hm'
  by_cases hnm : n = m
  · subst hnm
    go_enter Tryd.func14, Tryd.ntmps14
    go_wp2
    go_loopw [5] (fun i wr => ∃ k : Nat, k ≤ n ∧ i = .int .i64 k ∧ xs.take k = ys.take k ∧ Below w.heap.size w wr) (fun i _ => n - (intOf i).toNat)
    case atStart => exact ⟨0, Nat.zero_le _, rfl, rfl, Below.refl _ _⟩
    case round =>
      obtain ⟨k, hk, rfl, he, hb⟩ := hrel
      have HE := Lib.hid he
      clear he
      by_cases hlt : k < n
      · obtain ⟨b1, off1, rfl, hbl1, hc1⟩ := h.strs (by omega)
        obtain ⟨b2, off2, rfl, hbl2, hc2⟩ := h'.strs (by omega)
        have hcell1 : wr.cell? ⟨b1, off1 + k, none⟩ = some (.string (atS xs k)) := (hb.cell (p := ⟨b1, off1 + k, none⟩) hbl1).trans (hc1 k hlt)
        have hcell2 : wr.cell? ⟨b2, off2 + k, none⟩ = some (.string (atS ys k)) := (hb.cell (p := ⟨b2, off2 + k, none⟩) hbl2).trans (hc2 k hlt)
        have HT := Lib.hid (fun he => take_succS HE.out (by rw [hL.out]; exact hlt) (by rw [hL'.out]; exact hlt) he)
        have HN : Hid (atS xs k ≠ atS ys k → ¬ xs = ys) := Lib.hid (fun hne e => hne (by rw [e]))
        clear hc1 hc2 h h'
        generalize atS xs k = x at *
        generalize atS ys k = y at *
        have hi1 : (k : Int) < (n : Int) := by omega
        have hse := bs_eq x y
        by_cases hxy : x = y
        · rw [decide_eq_true hxy] at hse
          have HQ := Lib.hid (HT.out hxy)
          clear hxy HT HN
          go_wp2
          go_quiet (fail)
          go_wp2
          go_roundw
          case rel => exact ⟨k + 1, by omega, by go_num, HQ.out, below_drewN hb _⟩
          case measure => simp [intOf]; omega
        · rw [decide_eq_false hxy] at hse
          have HQ := Lib.hid (decide_eq_false (HN.out hxy))
          clear hxy HT HN
          go_wp2
          go_quiet (fail)
          go_wp2
          go_ret
          exact ⟨by rw [HQ.out]; rfl, below_drewN hb _⟩
      · obtain rfl : k = n := by omega
        go_wp2
        go_ret
        refine ⟨?_, hb⟩
        have := HE.out
        rw [List.take_of_length_le (by rw [hL.out]; exact Nat.le_refl _), List.take_of_length_le (by rw [hL'.out]; exact Nat.le_refl _)] at this
        simp [this]
  · have hne : ¬ xs = ys := fun e => hnm (by rw [← hL.out, ← hL'.out, e])
    have hi1 : ((n : Int) != (m : Int)) = true := by simp; omega
    go_enter Tryd.func14, Tryd.ntmps14
    go_wp2
    go_ret
    exact ⟨by simp [hne], Below.refl _ _⟩
/-- A digit's byte. -/
def dgU (d : Nat) : UInt8 := UInt8.ofNat (48 + d)
def mtL (k : Nat) (acc : List UInt8) : List UInt8 := if h : k = 0 then acc else mtL (k / 10) (dgU (k % 10) :: acc)
termination_by k
decreasing_by omega
theorem mtL_zero (acc : List UInt8) : mtL 0 acc = acc := by rw [mtL, dif_pos rfl]
theorem mtL_pos {k : Nat} (h : 0 < k) (acc : List UInt8) : mtL k acc = mtL (k / 10) (dgU (k % 10) :: acc) := by rw [mtL, dif_neg (by omega)]
/-- What markText says. -/
def mtext (k : Int) : ByteArray := if k ≤ 0 then mkB [109, 48] else mkB (109 :: mtL k.toNat [])
theorem conv_one {P : Program} {src e dst : TypeId} (hs : P.underlying src = some (.slice e)) (he : P.underlying e = some (.int .u8)) (hd : P.underlying dst = some .string) (w : World) (g cap : Nat) (x : Int) (hc : w.cell? ⟨g, 0, none⟩ = some (.int .u8 x)) :
    (convert src dst (.slice (some ⟨g, 0, none⟩) 1 cap)).run P w = .ok (.string (mkB [UInt8.ofNat x.toNat])) w := by
  rw [← strOf_one]
  exact run_convert_bytes_arg w src e hs he g 0 1 cap [x] rfl (fun j hj => by obtain rfl : j = 0 := by omega
                                                                              simpa using hc) dst hd
set_option maxHeartbeats 800000 in
set_option maxRecDepth 100000 in
theorem markText_any (k : Int) (h0 : 0 ≤ k) (h1 : k ≤ 4611686018427387904) (w : World) :
    Calls Tryd.prog 44 #[.int .i64 k] w fun e w' => e = .returned (.string (mtext k)) ∧ Below w.heap.size w w' := by
  by_cases hk : k ≤ 0
  · have HM := Lib.hid (show mtext k = mkB [109, 48] from if_pos hk)
    go_enter Tryd.func44, Tryd.ntmps44
    go_wp2
    go_ret
    exact ⟨by rw [HM.out]; rfl, Below.refl _ _⟩
  · obtain ⟨K, rfl⟩ := Int.eq_ofNat_of_zero_le h0
    have HM := Lib.hid (show mtext (K : Int) = mkB (109 :: mtL K []) from if_neg hk)
    go_enter Tryd.func44, Tryd.ntmps44
    go_wp2
    go_loopw [0, 3] (fun q s wr => ∃ (j : Nat) (acc : List UInt8), q = .int .i64 j ∧ s = .string (mkB acc) ∧ mtL j acc = mtL K [] ∧ j * 10 ^ acc.length ≤ 4611686018427387904 ∧ acc.length ≤ 20 ∧ Below w.heap.size w wr) (fun q _ _ => (intOf q).toNat)
    case atStart => exact ⟨K, [], rfl, rfl, rfl, by simp; omega, by simp, Below.refl _ _⟩
    case round =>
      obtain ⟨j, acc, rfl, rfl, hm, hp, hl, hb⟩ := hrel
      have HMM := Lib.hid hm
      have HP := Lib.hid hp
      clear hm hp
      by_cases hj : 0 < j
      · have hi : (0 : Int) < (j : Int) := by omega
        have hal := hb.alloc hb.size (.cells #[.int .u8 (48 + (j : Int) % 10)] 5)
        have hw1 : IntKind.wrap .u8 (48 + (j : Int) % 10) = 48 + (j : Int) % 10 := IntWalk.u8_in _ (by omega)
        have kc := conv_one (P := Tryd.prog) (src := 45) (dst := 9) Tryd.underlying45 Tryd.underlying5 Tryd.underlying9 (wr.alloc (.cells #[.int .u8 (48 + (j : Int) % 10)] 5)) wr.heap.size 1 (48 + (j : Int) % 10) (by simp [go_sem])
        rw [show UInt8.ofNat (48 + (j : Int) % 10).toNat = dgU (j % 10) from by unfold dgU; congr 1] at kc
        have ka : ¬ 9223372036854775807 < (mkB [dgU (j % 10)]).size + (mkB acc).size := sum_mk (by rw [List.length_singleton]; omega)
        have hjb : j ≤ 4611686018427387904 := Nat.le_trans (Nat.le_mul_of_pos_right _ (Nat.pow_pos (by omega))) HP.out
        have hww : wrap64 ((j : Int) / 10) = ((j / 10 : Nat) : Int) := by rw [IntWalk.wrap64_in _ ⟨by omega, by omega⟩]; omega
        go_wp2
        go_roundw
        case rel =>
          refine ⟨j / 10, dgU (j % 10) :: acc, congrArg (Value.int .i64) (show (j : Int) / 10 = ((j / 10 : Nat) : Int) by omega), by rw [mkB_app]; rfl, by rw [← mtL_pos hj, HMM.out], ?_, ?_, hal⟩
          · have := HP.out
            have h10 : j / 10 * 10 ≤ j := by omega
            rw [List.length_cons, Nat.pow_succ]
            calc j / 10 * (10 ^ acc.length * 10) = j / 10 * 10 * 10 ^ acc.length := by rw [Nat.mul_assoc, Nat.mul_comm 10]
              _ ≤ j * 10 ^ acc.length := Nat.mul_le_mul_right _ h10
              _ ≤ _ := this
          · refine Decidable.byContradiction fun hn => ?_
            simp only [List.length_cons] at hn
            have hl20 : acc.length = 20 := by omega
            have := HP.out
            rw [hl20] at this
            omega
        case measure => simp [intOf]; omega
      · obtain rfl : j = 0 := by omega
        have ka : ¬ 9223372036854775807 < 1 + (mkB acc).size := sum_mk1 (by omega)
        have hm := HMM.out
        rw [mtL_zero] at hm
        rw [← hm] at HM
        clear hm
        go_wp2
        go_ret
        exact ⟨by rw [HM.out, ← lit_mk]; rfl, hb⟩
def mksT (k : Int) (n : Nat) : List ByteArray := (List.range n).map fun i : Nat => mtext (k + (i : Int))
theorem mksT_len (k : Int) (n : Nat) : (mksT k n).length = n := by simp [mksT]
theorem mksT_at (k : Int) (n j : Nat) (h : j < n) : atS (mksT k n) j = mtext (k + (j : Int)) := by simp [atS, mksT, h]
theorem mksT_set (k : Int) (xs : List ByteArray) (j : Nat) (h : j < xs.length) : ((mksT k j ++ xs.drop j).map Value.string).set j (.string (mtext (k + (j : Int)))) = (mksT k (j + 1) ++ xs.drop (j + 1)).map Value.string := by
  rw [← List.map_set]
  congr 1
  rw [List.set_append_right _ _ (by rw [mksT_len]; exact Nat.le_refl _), mksT_len, Nat.sub_self, List.drop_eq_getElem_cons h, List.set_cons_zero]
  unfold mksT
  rw [List.range_succ, List.map_append, List.append_assoc]
  rfl
set_option maxHeartbeats 800000 in
theorem markStringS_row (a : Option Addr) (n cap : Nat) (xs : List ByteArray) (k : Int) (lo hi : Nat) (w : World) (h : OwnS encS 1 9 lo hi w a n cap xs) (hn : n ≤ 1073741824) (hk0 : 0 ≤ k) (hk1 : k ≤ 2305843009213693952) :
    Calls Tryd.prog 15 #[.slice a n cap, .int .i64 k] w fun e w' => e = .returned (.int .i64 (k + n)) ∧ OwnS encS 1 9 lo hi w' a n cap (mksT k n) ∧ Win lo hi w w' := by
  have HZ := Lib.hid h.len
  have HO : w.ownsRow lo 9 1 (.slice a n cap) n (xs.map Value.string) := by rw [← flat_encS]; exact h.own
  go_enter Tryd.func15, Tryd.ntmps15
  go_wp2
  go_loopw [1, 5] (fun q i wr => ∃ j : Nat, j ≤ n ∧ i = .int .i64 j ∧ q = .int .i64 (k + j) ∧ wr.ownsRow lo 9 1 (.slice a n cap) n ((mksT k j ++ xs.drop j).map Value.string) ∧ Win lo hi w wr) (fun _ i _ => n - (intOf i).toNat)
  case atStart => exact ⟨0, Nat.zero_le _, rfl, by go_num, HO, Win.refl _ _ _⟩
  case round =>
    obtain ⟨j, hj, rfl, rfl, ho, hw⟩ := hrel
    by_cases hlt : j < n
    · obtain ⟨g, rfl⟩ := own_some ho (by omega)
      have hg := h.lt g rfl
      have hj1 : (j : Int) < (n : Int) := by omega
      have hlo := (World.ownsRow.lt h.own g rfl).1
      go_wp2_with fail
      refine (markText_any (k + (j : Int)) (by omega) (by omega) wr).mono ?_
      rintro e w1 ⟨rfl, hb1⟩
      have ho1 := own_below ho hb1 (Nat.le_refl _)
      obtain ⟨d, hd⟩ := own_cell ho1 j hlt
      have hfr := ho1.frozenAt j
      have hst := (ho1.stored j (.string (mtext (k + (j : Int))))).1
      rw [mksT_set k xs j (by rw [HZ.out]; exact hlt)] at hst
      have hw1 := (hw.then_below (hb1.mono hw.size)).trans (Win.set w1 g j (.string (mtext (k + (j : Int)))) hlo hg)
      clear ho ho1 h HO
      go_wp2
      go_roundw
      case rel => exact ⟨j + 1, by omega, by go_num, by go_num, hst, hw1⟩
      case measure => simp [intOf]; omega
    · obtain rfl : j = n := by omega
      have e : mksT k j ++ xs.drop j = mksT k j := by rw [List.drop_of_length_le (by rw [HZ.out]; exact Nat.le_refl _), List.append_nil]
      rw [e, ← flat_encS] at ho
      have htop := Nat.le_trans h.top hw.size
      go_wp2
      go_ret
      exact ⟨rfl, ⟨mksT_len _ _, ho, h.lt, htop, h.small⟩, hw⟩
set_option maxHeartbeats 800000 in
theorem heldStringS_row (a : Option Addr) (n cap : Nat) (k : Int) (w : World) (h : Rd encS 1 w a n cap (mksT k n)) (hn : n ≤ 1073741824) (hk0 : 0 ≤ k) (hk1 : k ≤ 2305843009213693952) :
    Calls Tryd.prog 16 #[.slice a n cap, .int .i64 k] w fun e w' => e = .returned (.int .i64 (k + n)) ∧ Below w.heap.size w w' := by
  have hm := h.max
  have hle := h.le
  unfold maxLen at hm
  go_enter Tryd.func16, Tryd.ntmps16
  go_wp2
  go_loopw [1, 5] (fun q i wr => ∃ j : Nat, j ≤ n ∧ i = .int .i64 j ∧ q = .int .i64 (k + j) ∧ Below w.heap.size w wr) (fun _ i _ => n - (intOf i).toNat)
  case atStart => exact ⟨0, Nat.zero_le _, rfl, by go_num, Below.refl _ _⟩
  case round =>
    obtain ⟨j, hj, rfl, rfl, hb⟩ := hrel
    by_cases hlt : j < n
    · obtain ⟨b1, off1, rfl, hbl1, hc1⟩ := h.strs (by omega)
      have hcell1 : wr.cell? ⟨b1, off1 + j, none⟩ = some (.string (mtext (k + (j : Int)))) := (hb.cell (p := ⟨b1, off1 + j, none⟩) hbl1).trans ((hc1 j hlt).trans (by rw [mksT_at k n j hlt]))
      have hi1 : (j : Int) < (n : Int) := by omega
      have m1 : b1 < wr.heap.size := Nat.lt_of_lt_of_le hbl1 hb.size
      have hse := bs_eq (mtext (k + (j : Int))) (mtext (k + (j : Int)))
      rw [decide_eq_true rfl] at hse
      clear hc1 h
      go_wp2_with fail
      go_region_held3 (fun w' => w'.cell? ⟨b1, off1 + j, none⟩ = some (.string (mtext (k + (j : Int)))) ∧ Below wr.heap.size wr w') (first | exact keepd1 (by assumption) | exact keep1 (by assumption) (Nat.le_refl _) (by assumption) | exact ⟨hcell1, (Below.refl _ _).drew⟩) (first | (go_at_call 44; refine (markText_any (k + (j : Int)) (by omega) (by omega) _).mono ?_; rintro e wa ⟨rfl, hba⟩))
      have hb2 : Below wr.heap.size wr _ := tail1 (by assumption)
      have hb3 := hb.trans (hb2.mono hb.size)
      go_wp2
      go_roundw
      case rel => exact ⟨j + 1, by omega, by go_num, by go_num, hb3⟩
      case measure => simp [intOf]; omega
    · obtain rfl : j = n := by omega
      go_wp2
      go_ret
      exact ⟨rfl, hb⟩
end Go.Proofs.YtgkgbpgnbnledaaDoor

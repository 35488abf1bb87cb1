/- TextNum of the program and of the reference: what each call does. -/
import Derived.Test.YtgkgbpgnbnledaaDoorNumT
import Derived.Test.YtgkgbpgnbnledaaDoorText
import Derived.Lib.AtoiErrMem
namespace Go.Proofs.YtgkgbpgnbnledaaDoor
open Go.RowKit
theorem atoi_ok (s : ByteArray) (hs : s.size ≤ 1048576) (v : Int) (h : Lib.atoiAll s.data.toList = .ok v) (w : World) :
    Calls Tryd.prog 51 #[.string s] w fun e w' => e = .returned (.tuple #[.int .i64 v, .nilIface]) ∧ Below w.heap.size w w' :=
  (Any.strconv_Atoi_ok Tryd.laysC172 s (by omega) v h w).mono fun _ _ ⟨h1, h2⟩ => ⟨h1, by rcases h2 with rfl | ⟨t, rfl⟩; exact Below.refl _ _; exact Lib.bytesWorld_below _ _ _⟩
theorem atoi_err (s : ByteArray) (hs : s.size ≤ 1048576) (hA : ∀ v, Lib.atoiAll s.data.toList ≠ .ok v) (w : World) (he : Errs Tryd.prog w) :
    Calls Tryd.prog 51 #[.string s] w fun e w' => ∃ x N, e = .returned (.tuple #[.int .i64 x, .iface 102 (.pointer (some ⟨N, 0, none⟩))]) ∧ Below w.heap.size w w' := by
  obtain ⟨⟨t1, p1, h1⟩, t2, p2, h2⟩ := he
  cases h : Lib.atoiAll s.data.toList
  · exact absurd h (hA _)
  · exact (Any.strconv_Atoi_syntax_var Tryd.laysC172 s (by omega) h t1 p1 w h1).mono fun _ _ ⟨N, a, _, _, b⟩ => ⟨_, N, a, b⟩
  · exact (Any.strconv_Atoi_range_var Tryd.laysC172 s (by omega) h t2 p2 w h2).mono fun _ _ ⟨N, a, _, _, b⟩ => ⟨_, N, a, b⟩
theorem textNumL_ok {s : List UInt8} {v : Int} (h : Lib.atoiAll s = .ok v) : textNumL s = if (0 ≤ v ∧ v ≤ 281474976710655) ∧ numL v = s then (v, true) else (0, false) := by rw [textNumL_atoi, h]
theorem textNumL_err {s : List UInt8} (hA : ∀ v, Lib.atoiAll s ≠ .ok v) : textNumL s = (0, false) := by
  rw [textNumL_atoi]
  split
  · rename_i v h
    exact absurd h (hA v)
  · rfl
/-- What TextNum returns. -/
def RetTN (s : List UInt8) (w : World) (e : Ending) (w' : World) : Prop := e = .returned (.tuple #[.int .i64 (textNumL s).1, .bool (textNumL s).2]) ∧ Below w.heap.size w w'
set_option maxHeartbeats 1600000 in
theorem textNum_impl (s : ByteArray) (hs : s.size ≤ 1048576) (w : World) (hp : Pow Tryd.prog w) (he : Errs Tryd.prog w) :
    Calls Tryd.prog 23 #[.string s] w fun e w' => RetTN s.data.toList w e w' := by
  by_cases hA : ∃ v, Lib.atoiAll s.data.toList = .ok v
  · obtain ⟨v, hA⟩ := hA
    have ht := textNumL_ok hA
    have c0 := fun w => atoi_ok s hs v hA w
    clear hA
    by_cases hv : 0 ≤ v ∧ v ≤ 281474976710655
    · have HB := Lib.hid (numB_true hv.1 hv.2)
      have hse := bs_eq (mkB (numL v)) s
      by_cases hn : numL v = s.data.toList
      · rw [if_pos ⟨hv, hn⟩] at ht
        rw [decide_eq_true (by rw [hn, mkB_of])] at hse
        have HT := Lib.hid ht
        clear ht hn
        go_enter Tryd.func23, Tryd.ntmps23
        go_wp2_with fail
        refine (c0 _).mono ?_
        rintro e w1 ⟨rfl, hb1⟩
        go_wp2_with fail
        refine (isNumber_any v _).mono ?_
        rintro e w2 ⟨rfl, rfl⟩
        rw [HB.out]
        go_wp2_with fail
        refine (numText_impl v (by unfold In64; omega) _ (hp.later hb1 (Nat.le_refl _))).mono ?_
        rintro e w3 ⟨rfl, hb3⟩
        have BB := hb1.trans (hb3.mono hb1.size)
        go_wp2
        go_ret2
        exact ⟨by rw [HT.out]; rfl, BB⟩
      · rw [if_neg (fun h => hn h.2)] at ht
        rw [decide_eq_false (fun e => hn (by rw [← mkB_data (numL v), e]))] at hse
        have HT := Lib.hid ht
        clear ht hn
        go_enter Tryd.func23, Tryd.ntmps23
        go_wp2_with fail
        refine (c0 _).mono ?_
        rintro e w1 ⟨rfl, hb1⟩
        go_wp2_with fail
        refine (isNumber_any v _).mono ?_
        rintro e w2 ⟨rfl, rfl⟩
        rw [HB.out]
        go_wp2_with fail
        refine (numText_impl v (by unfold In64; omega) _ (hp.later hb1 (Nat.le_refl _))).mono ?_
        rintro e w3 ⟨rfl, hb3⟩
        have BB := hb1.trans (hb3.mono hb1.size)
        go_wp2
        go_ret2
        exact ⟨by rw [HT.out]; rfl, BB⟩
    · rw [if_neg (fun h => hv h.1)] at ht
      have HB := Lib.hid (numB_false hv)
      have HT := Lib.hid ht
      clear ht
      go_enter Tryd.func23, Tryd.ntmps23
      go_wp2_with fail
      refine (c0 _).mono ?_
      rintro e w1 ⟨rfl, hb1⟩
      go_wp2_with fail
      refine (isNumber_any v _).mono ?_
      rintro e w2 ⟨rfl, rfl⟩
      rw [HB.out]
      go_wp2
      go_ret2
      exact ⟨by rw [HT.out]; rfl, hb1⟩
  · have hA' : ∀ v, Lib.atoiAll s.data.toList ≠ .ok v := fun v h => hA ⟨v, h⟩
    have HT := Lib.hid (textNumL_err hA')
    go_enter Tryd.func23, Tryd.ntmps23
    go_wp2_with fail
    refine (atoi_err s hs hA' _ he).mono ?_
    rintro e w1 ⟨x, N, rfl, hb1⟩
    go_wp2
    go_ret2
    exact ⟨by rw [HT.out]; rfl, hb1⟩
theorem textNumL_len {s : List UInt8} (h : ¬ (1 ≤ s.length ∧ s.length ≤ 15)) : textNumL s = (0, false) := if_neg fun k => h ⟨k.1, k.2.1⟩
theorem textNumL_bad {s : List UInt8} {k : Nat} (hk : k < s.length) (h : ¬ digit s[k]) : textNumL s = (0, false) := if_neg fun q => h (q.2.2.1 _ (List.getElem_mem hk))
theorem take_snocU (s : ByteArray) (k : Nat) (h : k < s.size) : s.data.toList.take (k + 1) = s.data.toList.take k ++ [s[k]] := by
  rw [List.take_succ_eq_append_getElem (by simpa using h)]; rfl
set_option maxHeartbeats 1600000 in
theorem textNum_spec (s : ByteArray) (w : World) (hs : s.size ≤ maxLen) :
    Calls Tryd.prog 22 #[.string s] w fun e w' => RetTN s.data.toList w e w' := by
  have hsz : s.data.toList.length = s.size := by rw [size_data]
  unfold maxLen at hs
  by_cases h1 : 1 ≤ s.size ∧ s.size ≤ 15
  · obtain ⟨h1, h15⟩ := h1
    go_enter Tryd.func22, Tryd.ntmps22
    go_wp2
    go_loopw [4, 5] (fun n i wr => ∃ k : Nat, k ≤ s.size ∧ i = .int .i64 k ∧ n = .int .i64 (valD (s.data.toList.take k) : Nat) ∧ (∀ c ∈ s.data.toList.take k, digit c) ∧ valD (s.data.toList.take k) < 10 ^ k ∧ Below w.heap.size w wr) (fun _ i _ => s.size - (intOf i).toNat)
    case atStart => exact ⟨0, Nat.zero_le _, rfl, rfl, by simp, by simp [valD], Below.refl _ _⟩
    case round =>
      obtain ⟨k, hk, rfl, rfl, hd, hv, hb⟩ := hrel
      have HD := Lib.hid hd
      have HV := Lib.hid hv
      have hp15 : (10 : Nat) ^ k ≤ 10 ^ 15 := Nat.pow_le_pow_right (by omega) (by omega)
      have hvb : valD (s.data.toList.take k) < 1000000000000000 := Nat.lt_of_lt_of_le hv hp15
      clear hd hv hp15
      by_cases hlt : k < s.size
      · have HT := Lib.hid (take_snocU s k hlt)
        have HS := Lib.hid (show valD (s.data.toList.take (k + 1)) = valD (s.data.toList.take k) * 10 + (s[k].toNat - 48) by rw [HT.out, valD_snoc])
        have HX : Hid (¬ (48 ≤ s[k].toNat ∧ s[k].toNat ≤ 57) → textNumL s.data.toList = (0, false)) := Lib.hid fun h => textNumL_bad (k := k) (by rw [hsz]; exact hlt) h
        have h255 : s[k].toNat < 256 := s[k].toNat_lt
        by_cases hg : 48 ≤ s[k].toNat ∧ s[k].toNat ≤ 57
        · have HG : Hid (digit s[k]) := Lib.hid hg
          have ha : (48 : Int) ≤ (s[k].toNat : Int) := by omega
          have hb' : (s[k].toNat : Int) ≤ 57 := by omega
          generalize valD (s.data.toList.take k) = V at *
          go_wp2
          go_roundw
          case rel =>
            refine ⟨k + 1, by omega, by go_num, congrArg (Value.int .i64) (by have := HS.out; omega), ?_, ?_, hb⟩
            · intro c hc
              rw [HT.out] at hc
              rcases List.mem_append.1 hc with hc | hc
              · exact HD.out c hc
              · rw [List.mem_singleton.1 hc]; exact HG.out
            · have h1 := HV.out
              have h2 := HS.out
              rw [Nat.pow_succ]
              generalize 10 ^ k = P at *
              omega
          case measure => simp [intOf]; omega
        · have HQ := Lib.hid (HX.out hg)
          go_wp2
          all_goals
            go_ret2
            exact ⟨by rw [HQ.out]; rfl, hb⟩
      · obtain rfl : k = s.size := by omega
        have e : s.data.toList.take s.size = s.data.toList := List.take_of_length_le (by rw [hsz]; exact Nat.le_refl _)
        rw [e] at HD hvb ⊢
        have hse := bs_eq (mkB (numL (valD s.data.toList : Nat))) s
        have hin : In64 (valD s.data.toList : Nat) := by unfold In64; omega
        clear HV
        by_cases hn : numL (valD s.data.toList : Nat) = s.data.toList
        · have HT := Lib.hid (show textNumL s.data.toList = (((valD s.data.toList : Nat) : Int), true) by unfold textNumL; exact if_pos ⟨by rw [hsz]; exact h1, by rw [hsz]; exact h15, HD.out, hn⟩)
          rw [decide_eq_true (by rw [hn, mkB_of])] at hse
          clear hn e
          generalize valD s.data.toList = V at *
          go_wp2_with fail
          refine (numText_spec V V (by omega) hin _).mono ?_
          rintro e w1 ⟨rfl, hb1⟩
          have BB := hb.trans (hb1.mono hb.size)
          go_wp2
          go_ret2
          exact ⟨by rw [HT.out]; rfl, BB⟩
        · have HT := Lib.hid (show textNumL s.data.toList = (0, false) by unfold textNumL; exact if_neg fun q => hn q.2.2.2)
          rw [decide_eq_false (fun e => hn (by rw [← mkB_data (numL (valD s.data.toList : Nat)), e]))] at hse
          clear hn e
          generalize valD s.data.toList = V at *
          go_wp2_with fail
          refine (numText_spec V V (by omega) hin _).mono ?_
          rintro e w1 ⟨rfl, hb1⟩
          have BB := hb.trans (hb1.mono hb.size)
          go_wp2
          go_ret2
          exact ⟨by rw [HT.out]; rfl, BB⟩
  · have HT := Lib.hid (textNumL_len (s := s.data.toList) (by rw [hsz]; exact h1))
    by_cases h0 : 1 ≤ s.size
    · have h15 : ¬ s.size ≤ 15 := fun h => h1 ⟨h0, h⟩
      go_enter Tryd.func22, Tryd.ntmps22
      go_wp2
      go_ret2
      exact ⟨by rw [HT.out]; rfl, Below.refl _ _⟩
    · go_enter Tryd.func22, Tryd.ntmps22
      go_wp2
      go_ret2
      exact ⟨by rw [HT.out]; rfl, Below.refl _ _⟩
end Go.Proofs.YtgkgbpgnbnledaaDoor

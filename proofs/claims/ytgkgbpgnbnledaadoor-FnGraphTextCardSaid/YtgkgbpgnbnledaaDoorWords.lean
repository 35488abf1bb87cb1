/- words of the program, l04Line of the reference: numbers in a line. -/
import Derived.Test.YtgkgbpgnbnledaaDoorNumT
import Derived.Test.YtgkgbpgnbnledaaDoorPartsM
import Derived.Test.YtgkgbpgnbnledaaDoorTextG
namespace Go.Proofs.YtgkgbpgnbnledaaDoor
open Go.RowKit
/-- Numbers with blanks between. -/
def numsB (zs : List Int) : List UInt8 := Lib.join (zs.map numL) [32]
theorem join_snoc (x : List UInt8) (r : List (List UInt8)) (a : List UInt8) (sep : List UInt8) : Lib.join (x :: r ++ [a]) sep = Lib.join (x :: r) sep ++ sep ++ a := by
  rw [List.cons_append, Lib.join_cons, Lib.join_cons]
  simp [Lib.joinTail]
theorem numsB_first (zs : List Int) (h : 0 < zs.length) : numsB (zs.take 1) = numL (zs.getD 0 0) := by
  cases zs with
  | nil => simp at h
  | cons z r => exact Lib.join_one _ _
theorem numsB_next (zs : List Int) (k : Nat) (hk : 0 < k) (h : k < zs.length) : numsB (zs.take (k + 1)) = numsB (zs.take k) ++ [32] ++ numL (zs.getD k 0) := by
  unfold numsB
  rw [List.take_succ_eq_append_getElem h, List.map_append]
  cases zs with
  | nil => simp at h
  | cons z r =>
    obtain ⟨j, rfl⟩ : ∃ j, k = j + 1 := ⟨k - 1, by omega⟩
    rw [List.take_succ_cons, List.map_cons, List.map_cons, List.map_nil, join_snoc]
    simp [List.getD, show j < r.length by simpa using h]
theorem numsB_len (zs : List Int) : ∀ k, k ≤ zs.length → (numsB (zs.take k)).length ≤ 16 * k := by
  intro k
  induction k with
  | zero => intro _; simp [numsB, Lib.join_nil]
  | succ k ih =>
    intro h
    have := ih (by omega)
    have hl := numL_len (zs.getD k 0)
    by_cases hk : 0 < k
    · rw [numsB_next zs k hk (by omega), List.length_append, List.length_append, List.length_singleton]
      omega
    · obtain rfl : k = 0 := by omega
      rw [numsB_first zs (by omega)]
      have hl := numL_len (zs.getD 0 0)
      omega
theorem numsB_three (e : EdgeD) : numsB [e.1, e.2.1, e.2.2] = lineL e := by
  unfold numsB lineL
  rw [List.map_cons, List.map_cons, List.map_cons, List.map_nil, Lib.join_cons]
  simp [Lib.joinTail]
set_option maxRecDepth 100000 in
set_option maxHeartbeats 3200000 in
theorem words_impl (a : Option Addr) (n cap : Nat) (zs : List Int) (w : World) (h : Rd (encI .i64) 1 w a n cap zs) (hz : ∀ z ∈ zs, In64 z) (h0 : 0 < n) (hn : n ≤ 1000) (hp : Pow Tryd.prog w) :
    Calls Tryd.prog 49 #[.slice a n cap] w fun e w' => e = .returned (.string (mkB (numsB zs))) ∧ Below w.heap.size w w' := by
  obtain ⟨i0, hi, hz0, hz1, hz2⟩ := info_parts infoStr
  have hL := Lib.hid h.len
  have hle := h.le
  have hm := h.max
  have HLEN : Hid ((numsB zs).length ≤ 100000) := Lib.hid (by have := numsB_len zs zs.length (Nat.le_refl _); rw [List.take_length, h.len] at this; omega)
  unfold maxLen at hm
  go_enter Tryd.func49, Tryd.ntmps49
  go_wp2
  go_loopw [3, 8] (fun r i wr => ∃ (A : Option Addr) (C k : Nat), k ≤ n ∧ r = .slice A k C ∧ i = .int .i64 k ∧ OutRow w.heap.size w.heap.size 9 1 wr A k C ((((zs.take k).map numL).map mkB).map Value.string) ∧ Below w.heap.size w wr) (fun _ i _ => n - (intOf i).toNat)
  case atStart => exact ⟨none, 0, 0, Nat.zero_le _, rfl, rfl, OutRow.nil _ _ _ _ _, Below.refl _ _⟩
  case round =>
    obtain ⟨A, C, k, hk, rfl, rfl, ho, hb⟩ := hrel
    have HO := Lib.hid ho
    clear ho
    by_cases hlt : k < n
    · obtain ⟨b1, off1, rfl, hbl1, hc1⟩ := h.ints (by omega)
      have hcell : wr.cell? ⟨b1, off1 + k, none⟩ = some (.int .i64 (zs.getD k 0)) := (hb.cell (p := ⟨b1, off1 + k, none⟩) hbl1).trans (hc1 k hlt)
      have hkz : k < zs.length := by rw [hL.out]; exact hlt
      have hin : In64 (zs.getD k 0) := by
        have e : zs.getD k 0 = zs[k] := by simp [List.getD, hkz]
        rw [e]
        exact hz _ (List.getElem_mem hkz)
      have HT : Hid (((((zs.take (k + 1)).map numL).map mkB).map Value.string) = ((((zs.take k).map numL).map mkB).map Value.string) ++ [.string (mkB (numL (zs.getD k 0)))]) := Lib.hid (by rw [List.take_succ_eq_append_getElem hkz, List.map_append, List.map_cons, List.map_nil, str_snoc]; simp only [List.getD, List.getElem?_eq_getElem hkz, Option.getD_some])
      have hi1 : (k : Int) < (n : Int) := by omega
      have hpk := hp.later hb (Nat.le_refl _)
      clear hc1 h
      generalize zs.getD k 0 = z at *
      go_wp2_with fail
      refine (numText_impl z hin _ hpk).mono ?_
      rintro e w1 ⟨rfl, hb1⟩
      have hb2 := hb.trans (hb1.mono hb.size)
      go_wp2_with (at_builtin; refine app_out rfl _ _ 24 rfl w.heap.size w.heap.size 9 Tryd.underlying24 hi hz0 hz1 hz2 rfl (by decide) A k C ((((zs.take k).map numL).map mkB).map Value.string) rfl ((HO.out.below hb1).alloc _) ⟨w1.heap.size, 0, none⟩ 1 1 [.string (mkB (numL z))] rfl rfl (one_news _ _ _ _ rfl) (one_str _) (by decide) ?c4 ?c5 ?c6 ?c7 ?_)
      case c4 => unfold maxLen; omega
      case c5 => omega
      case c6 => exact Nat.le_refl _
      case c7 => have := hb2.size; simp; omega
      intro A2 C2 w4 ho2 hb4
      have HO2 : Hid (OutRow w.heap.size w.heap.size 9 1 w4 A2 (k + 1) C2 ((((zs.take (k + 1)).map numL).map mkB).map Value.string)) := Lib.hid (by rw [HT.out]; first | exact ho2 | (simp only [List.map_map, List.map_take] at ho2 ⊢; exact ho2))
      have hb5 := (hb2.alloc hb2.size (.cells #[.string (mkB (numL z))] 9)).trans hb4
      clear ho2 hb4
      go_wp2
      go_roundw
      case rel => exact ⟨A2, C2, k + 1, by omega, rfl, by go_num, HO2.out, hb5⟩
      case measure => simp [intOf]; omega
    · obtain rfl : k = n := by omega
      have e : zs.take k = zs := List.take_of_length_le (by rw [hL.out]; exact Nat.le_refl _)
      rw [e] at HO
      have hX : Hid (((zs.map numL).map mkB).length = k) := Lib.hid (by simp [hL.out])
      have hrd : Rd encS 1 wr A k C ((zs.map numL).map mkB) := (OwnS.of (by rw [flat_encS]; exact HO.out.1) hX.out (by omega) : OwnS encS 1 9 w.heap.size wr.heap.size wr A k C ((zs.map numL).map mkB)).rdS
      have hcap := hrd.le
      obtain ⟨b, off, rfl, hbl, hc⟩ := hrd.strs h0
      have hj : (((zs.map numL).map mkB).map (·.data.toList)) = zs.map numL := by
        rw [List.map_map]
        conv => rhs; rw [← List.map_id (zs.map numL)]
        exact List.map_congr_left fun x _ => mkB_data x
      have cj := Tryd.strings_Join b off C ((zs.map numL).map mkB) ⟨#[32]⟩ wr (fun j x hx => by
          have hjl : j < ((zs.map numL).map mkB).length := by
            rcases Nat.lt_or_ge j ((zs.map numL).map mkB).length with q | q
            · exact q
            · rw [List.getElem?_eq_none q] at hx; cases hx
          rw [hc j (by rw [← hX.out]; exact hjl), atS_eq _ _ hjl]
          rw [List.getElem?_eq_getElem hjl] at hx
          rw [Option.some.inj hx]) hbl (by rw [hX.out]; omega) (by rw [hX.out]; exact hcap) (by rw [hj]; exact Nat.le_trans HLEN.out (by omega))
      rw [hj, hX.out] at cj
      clear hc hrd hj HO e h
      go_wp2_with fail
      refine cj.mono ?_
      rintro e w1 ⟨rfl, hb1⟩
      have hb2 := hb.trans (hb1.mono hb.size)
      go_wp2
      go_ret
      exact ⟨rfl, hb2⟩
set_option maxRecDepth 100000 in
set_option maxHeartbeats 3200000 in
theorem line_spec (a : Option Addr) (n cap : Nat) (zs : List Int) (w : World) (h : Rd (encI .i64) 1 w a n cap zs) (hz : ∀ z ∈ zs, In64 z) (hn : n ≤ 1000) :
    Calls Tryd.prog 47 #[.slice a n cap] w fun e w' => e = .returned (.string (mkB (numsB zs))) ∧ Below w.heap.size w w' := by
  have hL := Lib.hid h.len
  have hle := h.le
  have hm := h.max
  unfold maxLen at hm
  go_enter Tryd.func47, Tryd.ntmps47
  go_wp2
  go_loopw [3, 8] (fun r i wr => ∃ k : Nat, k ≤ n ∧ r = .string (mkB (numsB (zs.take k))) ∧ i = .int .i64 k ∧ Below w.heap.size w wr) (fun _ i _ => n - (intOf i).toNat)
  case atStart => exact ⟨0, Nat.zero_le _, rfl, rfl, Below.refl _ _⟩
  case round =>
    obtain ⟨k, hk, rfl, rfl, hb⟩ := hrel
    by_cases hlt : k < n
    · obtain ⟨b1, off1, rfl, hbl1, hc1⟩ := h.ints (by omega)
      have hcell : wr.cell? ⟨b1, off1 + k, none⟩ = some (.int .i64 (zs.getD k 0)) := (hb.cell (p := ⟨b1, off1 + k, none⟩) hbl1).trans (hc1 k hlt)
      have hkz : k < zs.length := by rw [hL.out]; exact hlt
      have hin : In64 (zs.getD k 0) := by
        have e : zs.getD k 0 = zs[k] := by simp [List.getD, hkz]
        rw [e]
        exact hz _ (List.getElem_mem hkz)
      have hlen := numsB_len zs k (by omega)
      have hlz := numL_len (zs.getD k 0)
      have hi1 : (k : Int) < (n : Int) := by omega
      by_cases hk0 : 0 < k
      · have HT := Lib.hid (numsB_next zs k hk0 hkz)
        have hi2 : (0 : Int) < (k : Int) := by omega
        clear hc1 h
        generalize zs.getD k 0 = z at *
        generalize numsB (zs.take k) = X at *
        have s1 : ¬ 9223372036854775807 < (mkB X).size + 1 := sum_1mk (by omega)
        have s2 : ¬ 9223372036854775807 < (mkB (X ++ [32])).size + (mkB (numL z)).size := sum_mk (by rw [List.length_append, List.length_singleton]; omega)
        have e1 := mk_lit 32 X
        go_wp2_with fail
        refine (numText_spec z.toNat z (Nat.le_refl _) hin _).mono ?_
        rintro e w1 ⟨rfl, hb1⟩
        have hb2 := hb.trans (hb1.mono hb.size)
        go_wp2
        go_roundw
        case rel => exact ⟨k + 1, by omega, by simp only [HT.out, mkB_app], by go_num, hb2⟩
        case measure => simp [intOf]; omega
      · obtain rfl : k = 0 := by omega
        have HT := Lib.hid (numsB_first zs hkz)
        clear hc1 h
        generalize zs.getD 0 0 = z at *
        have s2 : ¬ 9223372036854775807 < (mkB (numsB (zs.take 0))).size + (mkB (numL z)).size := sum_mk (by omega)
        have hX : Hid (numsB (zs.take 0) = []) := Lib.hid rfl
        simp only [Nat.add_zero] at hcell
        go_wp2_with fail
        refine (numText_spec z.toNat z (Nat.le_refl _) hin _).mono ?_
        rintro e w1 ⟨rfl, hb1⟩
        have hb2 := hb.trans (hb1.mono hb.size)
        go_wp2
        go_roundw
        case rel => exact ⟨1, by omega, by rw [HT.out, mkB_app]; rfl, by go_num, hb2⟩
        case measure => simp [intOf]; omega
    · obtain rfl : k = n := by omega
      have e : zs.take k = zs := List.take_of_length_le (by rw [hL.out]; exact Nat.le_refl _)
      rw [e]
      go_wp2
      go_ret
      exact ⟨rfl, hb⟩
end Go.Proofs.YtgkgbpgnbnledaaDoor

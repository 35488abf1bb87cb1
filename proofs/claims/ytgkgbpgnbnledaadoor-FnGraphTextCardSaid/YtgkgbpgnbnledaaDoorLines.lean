/- linesOf of the program, l04Lines and l04Nums of the reference. -/
import Derived.Test.YtgkgbpgnbnledaaDoorPartsM
import Derived.Test.YtgkgbpgnbnledaaDoorTextN
import Derived.Test.YtgkgbpgnbnledaaDoorTextH
namespace Go.Proofs.YtgkgbpgnbnledaaDoor
open Go.RowKit
theorem rd_take {α : Type} {enc : α → List Value} {sz : Nat} {w : World} {a : Option Addr} {n cap : Nat} {xs : List α} (h : Rd enc sz w a n cap xs) (m : Nat) (hm : m ≤ n) : Rd enc sz w a m cap (xs.take m) := by
  refine ⟨by have := h.le; omega, h.max, by rw [List.length_take, h.len]; omega, h.nil, fun h0 => ?_⟩
  obtain ⟨b, off, ha, hl, hc⟩ := h.spot (by omega)
  exact ⟨b, off, ha, hl, fun i hi f u hu => hc i (by rw [List.length_take] at hi; omega) f u (by rwa [List.getElem_take] at hu)⟩
theorem rd_drop {α : Type} {enc : α → List Value} {w : World} {b off n cap : Nat} {xs : List α} (h : Rd enc 1 w (some ⟨b, off, none⟩) n cap xs) (p : Nat) (hp : p ≤ n) : Rd enc 1 w (some ⟨b, off + p, none⟩) (n - p) (cap - p) (xs.drop p) := by
  refine ⟨by have := h.le; omega, by have := h.max; omega, by rw [List.length_drop, h.len], (fun hh => by cases hh), fun h0 => ?_⟩
  obtain ⟨b', off', ha, hl, hc⟩ := h.spot (by omega)
  cases ha
  refine ⟨b, off + p, rfl, hl, fun i hi f u hu => ?_⟩
  have := hc (p + i) (by rw [List.length_drop] at hi; omega) f u (by rwa [List.getElem_drop] at hu)
  rw [← this]
  congr 2
  omega
/-- A call that returns a row of strings that can be read. -/
def RetRS (L : List (List UInt8)) (w : World) (e : Ending) (w' : World) : Prop := ∃ (a : Option Addr) (n c : Nat), e = .returned (.slice a n c) ∧ Rd encS 1 w' a n c (L.map mkB) ∧ (∀ g o, a = some ⟨g, o, none⟩ → w.heap.size ≤ g) ∧ Below w.heap.size w w'
theorem linesL_of {s : List UInt8} {X : List (List UInt8)} (h : cutAt 10 s = X) : ∃ hne : X ≠ [], linesL s = if X.getLast hne = [] then X.take (X.length - 1) else X := by
  subst h
  refine ⟨cutAt_ne 10 s, ?_⟩
  unfold linesL
  rw [List.getLast?_eq_some_getLast (cutAt_ne 10 s), List.dropLast_eq_take]
  simp only [Option.some.injEq]
set_option maxRecDepth 100000 in
set_option maxHeartbeats 3200000 in
theorem linesOf_impl (s : ByteArray) (hs : s.size ≤ 1048576) (w : World) (hm : SomeInt 3 w) :
    Calls Tryd.prog 54 #[.string s] w fun e w' => RetRS (linesL s.data.toList) w e w' := by
  have hlen := cutAt_len 10 s.data.toList
  rw [size_dataB] at hlen
  have c0 := split_any s 10 hs w hm
  obtain ⟨X, hX⟩ : ∃ X, cutAt 10 s.data.toList = X := ⟨_, rfl⟩
  obtain ⟨hne, hll⟩ := linesL_of hX
  rw [hX] at hlen c0
  have hpos : 0 < X.length := by cases X with | nil => exact absurd rfl hne | cons _ _ => simp
  have HL : Hid (atS (X.map mkB) (X.length - 1) = mkB (X.getLast hne)) := Lib.hid (by
    rw [atS_eq _ _ (by rw [List.length_map]; omega), List.getElem_map, List.getLast_eq_getElem])
  have hi1 : (1 : Int) ≤ (X.length : Int) := by omega
  have hse := bs_empty (mkB (X.getLast hne))
  rw [mkB_data] at hse
  by_cases hl : X.getLast hne = []
  · rw [if_pos hl] at hll
    rw [decide_eq_true hl] at hse
    have HX := Lib.hid hll
    clear hll hl hX
    go_enter Tryd.func54, Tryd.ntmps54
    go_wp2_with fail
    refine c0.mono ?_
    rintro e w1 ⟨rfl, ho, hb⟩
    have hr := ho.rdS
    obtain ⟨b, off, hab, hbl, hc⟩ := hr.strs hpos
    cases hab
    have hcl := hc (X.length - 1) (by omega)
    rw [HL.out] at hcl
    simp only [Nat.zero_add] at hcl
    have ht := rd_take hr (X.length - 1) (by omega)
    rw [← List.map_take] at ht
    clear hc hr ho c0
    have hww : wrap64 ((X.length : Int) - 1) = ((X.length - 1 : Nat) : Int) := by rw [IntWalk.wrap64_in _ ⟨by omega, by omega⟩]; omega
    go_wp2
    go_ret
    rw [← HX.out] at ht
    exact ⟨_, _, _, rfl, ht, (fun g o h => by cases h; exact Nat.le_refl _), hb⟩
  · rw [if_neg hl] at hll
    rw [decide_eq_false hl] at hse
    have HX := Lib.hid hll
    clear hll hl hX
    go_enter Tryd.func54, Tryd.ntmps54
    go_wp2_with fail
    refine c0.mono ?_
    rintro e w1 ⟨rfl, ho, hb⟩
    have hr := ho.rdS
    obtain ⟨b, off, hab, hbl, hc⟩ := hr.strs hpos
    cases hab
    have hcl := hc (X.length - 1) (by omega)
    rw [HL.out] at hcl
    simp only [Nat.zero_add] at hcl
    clear hc ho c0
    have hww : wrap64 ((X.length : Int) - 1) = ((X.length - 1 : Nat) : Int) := by rw [IntWalk.wrap64_in _ ⟨by omega, by omega⟩]; omega
    go_wp2
    go_ret
    exact ⟨_, X.length, X.length, rfl, by rw [HX.out]; exact hr, (fun g o h => by cases h; exact Nat.le_refl _), hb⟩
set_option maxRecDepth 100000 in
set_option maxHeartbeats 3200000 in
theorem lines_spec (s : ByteArray) (hs : s.size ≤ 1048576) (w : World) :
    Calls Tryd.prog 52 #[.string s] w fun e w' => RetRS (linesL s.data.toList) w e w' := by
  obtain ⟨i0, hi, hz0, hz1, hz2⟩ := info_parts infoStr
  have hsz := size_dataB s
  have hO : OutRow w.heap.size w.heap.size 9 1 (w.alloc (.cells #[] 9)) (some ⟨w.heap.size, 0, none⟩) 0 0 [] := OutRow.lit w 9 1 _
  go_enter Tryd.func52, Tryd.ntmps52
  go_wp2
  go_loopw [3, 4, 5] (fun r f i wr => ∃ (A : Option Addr) (n C u k : Nat) (out : List (List UInt8)), k ≤ s.size ∧ r = .slice A n C ∧ f = .int .i64 u ∧ i = .int .i64 k ∧ OutRow w.heap.size w.heap.size 9 1 wr A n C ((out.map mkB).map Value.string) ∧ out.length = n ∧ n ≤ k ∧ CutTo 10 s.data.toList out u k ∧ Below w.heap.size w wr) (fun _ _ i _ => s.size - (intOf i).toNat)
  case atStart => exact ⟨_, 0, 0, 0, 0, [], Nat.zero_le _, rfl, rfl, rfl, hO, rfl, Nat.le_refl _, CutTo.start _ _, (Below.refl _ _).alloc (Nat.le_refl _) _⟩
  case round =>
    obtain ⟨A, n, C, u, k, out, hk, rfl, rfl, rfl, ho, hn, hnk, hc, hb⟩ := hrel
    have HO := Lib.hid ho
    have HC := Lib.hid hc
    have HN := Lib.hid hn
    have huk := hc.1
    clear ho hc hn
    by_cases hlt : k < s.size
    · have h255 : s[k].toNat < 256 := s[k].toNat_lt
      by_cases hg : s[k].toNat = 10
      · have hge : (s[k].toNat : Int) = 10 := by omega
        have HH := Lib.hid (HC.out.hit (by rw [hsz]; exact hlt) (show s[k] = 10 from UInt8.toNat_inj.1 hg))
        go_wp2_with (at_builtin; refine app_out rfl _ _ 24 rfl w.heap.size w.heap.size 9 Tryd.underlying24 hi hz0 hz1 hz2 rfl (by decide) A n C ((out.map mkB).map Value.string) rfl (HO.out.alloc _) ⟨wr.heap.size, 0, none⟩ 1 1 [.string (s.extract u k)] rfl rfl (one_news _ _ _ _ rfl) (one_str _) (by decide) ?c4 ?c5 ?c6 ?c7 ?_)
        case c4 => unfold maxLen; omega
        case c5 => omega
        case c6 => exact Nat.le_refl _
        case c7 => have := hb.size; simp; omega
        intro A2 C2 w4 ho2 hb4
        have HO2 : Hid (OutRow w.heap.size w.heap.size 9 1 w4 A2 (n + 1) C2 (((out ++ [(s.data.toList.drop u).take (k - u)]).map mkB).map Value.string)) := Lib.hid (by rw [str_snoc, ← extr]; first | exact ho2 | (simp only [List.map_map] at ho2 ⊢; exact ho2))
        have hb5 := (hb.alloc hb.size (.cells #[.string (s.extract u k)] 9)).trans hb4
        clear ho2 hb4
        go_wp2
        go_roundw
        case rel => exact ⟨A2, n + 1, C2, k + 1, k + 1, _, by omega, rfl, by go_num, by go_num, HO2.out, by rw [List.length_append, HN.out]; rfl, by omega, HH.out, hb5⟩
        case measure => simp [intOf]; omega
      · have hge : ¬ (s[k].toNat : Int) = 10 := by omega
        have HM := Lib.hid (HC.out.miss (by rw [hsz]; exact hlt) (fun e => hg (by have : s[k] = 10 := e; rw [this]; rfl)))
        go_wp2
        go_roundw
        case rel => exact ⟨A, n, C, u, k + 1, out, by omega, rfl, rfl, by go_num, HO.out, HN.out, by omega, HM.out, hb⟩
        case measure => simp [intOf]; omega
    · obtain rfl : k = s.size := by omega
      have HF := Lib.hid (linesL_fin (show CutTo 10 s.data.toList out u s.data.toList.length by rw [hsz]; exact HC.out))
      rw [hsz] at HF
      by_cases hus : u < s.size
      · have hui : (u : Int) < (s.size : Int) := by omega
        have HF2 : Hid (linesL s.data.toList = out ++ [s.data.toList.drop u]) := Lib.hid (by rw [HF.out, if_pos hus])
        have hdu : (s.data.toList.drop u).take (s.size - u) = s.data.toList.drop u := List.take_of_length_le (by rw [List.length_drop, hsz]; exact Nat.le_refl _)
        go_wp2_with (at_builtin; refine app_out rfl _ _ 24 rfl w.heap.size w.heap.size 9 Tryd.underlying24 hi hz0 hz1 hz2 rfl (by decide) A n C ((out.map mkB).map Value.string) rfl (HO.out.alloc _) ⟨wr.heap.size, 0, none⟩ 1 1 [.string (s.extract u s.size)] rfl rfl (one_news _ _ _ _ rfl) (one_str _) (by decide) ?d4 ?d5 ?d6 ?d7 ?_)
        case d4 => unfold maxLen; omega
        case d5 => omega
        case d6 => exact Nat.le_refl _
        case d7 => have := hb.size; simp; omega
        intro A2 C2 w4 ho2 hb4
        have HO2 : Hid (w4.ownsRow w.heap.size 9 1 (.slice A2 (n + 1) C2) (n + 1) (((linesL s.data.toList).map mkB).flatMap encS)) := Lib.hid (by rw [HF2.out, flat_encS, str_snoc, ← hdu, ← extr]; first | exact ho2.1 | (simp only [List.map_map] at ho2 ⊢; exact ho2.1))
        have hb5 := (hb.alloc hb.size (.cells #[.string (s.extract u s.size)] 9)).trans hb4
        clear hdu ho2 hb4
        go_wp2
        go_ret
        exact ⟨A2, n + 1, C2, rfl, Rd.of_own (fun x _ => lenS x) HO2.out (by rw [HF2.out]; simp [HN.out]), (fun g o h => by subst h; exact (World.ownsRow.lt HO2.out g rfl).1), hb5⟩
      · have hui : ¬ (u : Int) < (s.size : Int) := by omega
        have HF2 : Hid (linesL s.data.toList = out) := Lib.hid (by rw [HF.out, if_neg hus])
        go_wp2
        go_ret
        exact ⟨A, n, C, rfl, Rd.of_own (fun x _ => lenS x) (by rw [HF2.out, flat_encS]; exact HO.out.1) (by rw [HF2.out]; simp [HN.out]), (fun g o h => by subst h; exact (World.ownsRow.lt HO.out.1 g rfl).1), hb⟩
theorem infoI64 : (Tryd.prog.info? 3).map (fun i => (i.zero, i.size, i.bytes)) = some (some (.int .i64 0), 1, 8) := by kernel_rfl
/-- A call that returns a row of numbers that can be read. -/
def RetRI (L : List Int) (w : World) (e : Ending) (w' : World) : Prop := ∃ (a : Option Addr) (n c : Nat), e = .returned (.slice a n c) ∧ Rd (encI .i64) 1 w' a n c L ∧ Below w.heap.size w w'
set_option maxRecDepth 100000 in
set_option maxHeartbeats 3200000 in
theorem nums_spec (s : ByteArray) (hs : s.size ≤ 1048576) (w : World) :
    Calls Tryd.prog 53 #[.string s] w fun e w' => RetRI (numsL s.data.toList) w e w' := by
  obtain ⟨i0, hi, hz0, hz1, hz2⟩ := info_parts infoI64
  have hsz := size_dataB s
  have hlen := cutAt_len 32 s.data.toList
  rw [hsz] at hlen
  have hmem := cutAt_mem_len 32 s.data.toList
  rw [hsz] at hmem
  have c0 := fun w => parts_spec s hs w
  have HNL : Hid (numsL s.data.toList = numsGo (cutAt 32 s.data.toList) []) := Lib.hid rfl
  generalize cutAt 32 s.data.toList = X at *
  have hO : ∀ B, OutRow w.heap.size B 3 1 (w.alloc (.cells #[] 3)) (some ⟨w.heap.size, 0, none⟩) 0 0 [] := OutRow.lit w 3 1
  have hba := (Below.refl w.heap.size w).alloc (Nat.le_refl _) (.cells #[] 3)
  go_enter Tryd.func53, Tryd.ntmps53
  go_wp2_with fail
  refine (c0 _).mono ?_
  rintro e w1 ⟨a1, n1, k1, rfl, ho1, hb1⟩
  have hN : X.length = n1 := by have := ho1.len; rwa [List.length_map] at this
  have hr1 := ho1.rdS
  have hle1 := hr1.le
  have hmx1 := hr1.max
  have hO1 := (hO w1.heap.size).below hb1
  have B1 := hba.trans (hb1.mono hba.size)
  unfold maxLen at hmx1
  clear ho1 hO c0
  go_wp2
  go_loopw [3, 12] (fun r i wr => ∃ (A : Option Addr) (C k : Nat) (acc : List Int), k ≤ n1 ∧ r = .slice A k C ∧ i = .int .i64 k ∧ OutRow w.heap.size w1.heap.size 3 1 wr A k C (acc.map (.int .i64)) ∧ acc.length = k ∧ numsL s.data.toList = numsGo (X.drop k) acc ∧ Below w1.heap.size w1 wr) (fun _ i _ => n1 - (intOf i).toNat)
  case atStart => exact ⟨_, 0, 0, [], Nat.zero_le _, rfl, rfl, hO1, rfl, HNL.out, Below.refl _ _⟩
  case round =>
    obtain ⟨A, C, k, acc, hk, rfl, rfl, ho, hal, he, hb⟩ := hrel
    have HO := Lib.hid ho
    have HA := Lib.hid hal
    have HE := Lib.hid he
    clear ho hal he
    have BB := B1.trans (hb.mono B1.size)
    by_cases hlt : k < n1
    · obtain ⟨b1, off1, rfl, hbl1, hc1⟩ := hr1.strs (by omega)
      have hkx : k < X.length := by rw [hN]; exact hlt
      have hcell : wr.cell? ⟨b1, off1 + k, none⟩ = some (.string (mkB X[k])) := (hb.cell (p := ⟨b1, off1 + k, none⟩) hbl1).trans (by rw [hc1 k hlt, atS_eq _ _ (by rw [List.length_map]; exact hkx), List.getElem_map])
      have hi1 : (k : Int) < (n1 : Int) := by omega
      have hpl : (mkB X[k]).size ≤ maxLen := by rw [mkB_size]; have := hmem _ (List.getElem_mem hkx); unfold maxLen; omega
      have HD : Hid (X.drop k = X[k] :: X.drop (k + 1)) := Lib.hid (List.drop_eq_getElem_cons hkx)
      have ct := fun w => textNum_spec (mkB X[k]) w hpl
      simp only [mkB_data] at ct
      clear hc1 hpl
      cases hT : (textNumL X[k]).2 with
      | true =>
        have HG : Hid (numsL s.data.toList = numsGo (X.drop (k + 1)) (acc ++ [(textNumL X[k]).1])) := Lib.hid (by rw [HE.out, HD.out, numsGo, if_pos hT])
        unfold RetTN at ct
        rw [hT] at ct
        clear hT HE HD
        generalize (textNumL X[k]).1 = v at *
        generalize mkB X[k] = S at *
        go_wp2_with fail
        refine (ct _).mono ?_
        rintro e w2 ⟨rfl, hb2⟩
        have hb3 := hb.trans (hb2.mono hb.size)
        have B3 := BB.trans (hb2.mono BB.size)
        go_wp2_with (at_builtin; refine app_out rfl _ _ 47 rfl w.heap.size w1.heap.size 3 Tryd.underlying47 hi hz0 hz1 hz2 rfl (by decide) A k C (acc.map (.int .i64)) rfl ((HO.out.below hb2).alloc _) ⟨w2.heap.size, 0, none⟩ 1 1 [.int .i64 v] rfl rfl (one_news _ _ _ _ rfl) (int_one _ _) (by decide) ?c4 ?c5 ?c6 ?c7 ?_)
        case c4 => unfold maxLen; omega
        case c5 => omega
        case c6 => exact B1.size
        case c7 => have := hb3.size; simp; omega
        intro A2 C2 w4 ho2 hb4
        have hb5 := (hb3.alloc hb3.size (.cells #[.int .i64 v] 3)).trans hb4
        go_wp2
        go_roundw
        case rel => exact ⟨A2, C2, k + 1, acc ++ [v], by omega, rfl, by go_num, by rw [List.map_append]; exact ho2, by rw [List.length_append, HA.out]; rfl, HG.out, hb5⟩
        case measure => simp [intOf]; omega
      | false =>
        have HG : Hid (numsL s.data.toList = []) := Lib.hid (by rw [HE.out, HD.out, numsGo, if_neg (by rw [hT]; decide)])
        unfold RetTN at ct
        rw [hT] at ct
        clear hT HE HD
        generalize (textNumL X[k]).1 = v at *
        generalize mkB X[k] = S at *
        go_wp2_with fail
        refine (ct _).mono ?_
        rintro e w2 ⟨rfl, hb2⟩
        have B3 := BB.trans (hb2.mono BB.size)
        go_wp2
        go_ret
        exact ⟨none, 0, 0, rfl, by rw [HG.out]; exact ⟨Nat.le_refl _, by unfold maxLen; omega, rfl, fun _ => rfl, fun hh => absurd hh (Nat.lt_irrefl 0)⟩, B3⟩
    · obtain rfl : k = n1 := by omega
      have HG : Hid (numsL s.data.toList = acc) := Lib.hid (by rw [HE.out, List.drop_of_length_le (by omega)]; rfl)
      go_wp2
      go_ret
      exact ⟨A, k, C, rfl, by rw [HG.out]; exact Rd.of_ints HO.out.1 HA.out, BB⟩
end Go.Proofs.YtgkgbpgnbnledaaDoor

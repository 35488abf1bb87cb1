/- NumText of the program and of the reference: what each call does. -/
import Derived.Test.YtgkgbpgnbnledaaDoorRows
import Derived.Test.YtgkgbpgnbnledaaDoorLib
import Derived.Test.YtgkgbpgnbnledaaDoorKeep
import Derived.Test.YtgkgbpgnbnledaaDoorNum
import Derived.Test.YtgkgbpgnbnledaaDoorText
import Derived.Test.YtgkgbpgnbnledaaDoorLaid
import Derived.Test.YtgkgbpgnbnledaaDoorStrS
import Derived.Test.YtgkgbpgnbnledaaDoorShelf
import Derived.Lib.AppendIntMem
import Derived.Deep.RegionWith
namespace Go.Proofs.YtgkgbpgnbnledaaDoor
open Go.RowKit
theorem numL_step {n : Int} (h0 : 10 ≤ n) (h1 : n ≤ 281474976710655) : numL n = numL (n / 10) ++ [dgU (n % 10).toNat] := by
  obtain ⟨u, rfl⟩ := Int.eq_ofNat_of_zero_le (show 0 ≤ n by omega)
  rw [numL_nat (by omega), show ((u : Int) / 10) = ((u / 10 : Nat) : Int) by omega, numL_nat (by omega), Lib.decDigits, dif_neg (by omega)]
  congr 1
theorem numL_one {n : Int} (h0 : 0 ≤ n) (h1 : n < 10) : numL n = [dgU n.toNat] := by
  obtain ⟨u, rfl⟩ := Int.eq_ofNat_of_zero_le h0
  rw [numL_nat (by omega), Lib.decDigits, dif_pos (by omega)]
  rfl
set_option maxHeartbeats 800000 in
theorem numText_impl (n : Int) (hn : In64 n) (w : World) (ht : Pow Tryd.prog w) :
    Calls Tryd.prog 11 #[.int .i64 n] w fun e w' => e = .returned (.string (mkB (numL n))) ∧ Below w.heap.size w w' := by
  unfold In64 at hn
  by_cases a : 0 ≤ n ∧ n ≤ 281474976710655
  · have HN := Lib.hid (show mkB (numL n) = ⟨(Lib.itoa n).toArray⟩ by unfold numL Lib.itoa; rw [if_pos a, if_neg (by omega)]; rfl)
    have HB := Lib.hid (numB_true a.1 a.2)
    go_enter Tryd.func11, Tryd.ntmps11
    go_wp2_with fail
    refine (isNumber_any n _).mono ?_
    rintro e w1 ⟨rfl, rfl⟩
    rw [HB.out]
    go_wp2_with fail
    refine (Tryd.strconv_Itoa n hn.1 hn.2 _ ht).mono ?_
    rintro e w2 ⟨rfl, k, os, rfl⟩
    go_wp2
    go_ret
    exact ⟨by rw [HN.out]; rfl, Lib.below_grow _ w (Nat.le_refl _) k os⟩
  · have HN := Lib.hid (show mkB (numL n) = ⟨#[]⟩ by rw [numL_big a]; rfl)
    have HB := Lib.hid (numB_false a)
    go_enter Tryd.func11, Tryd.ntmps11
    go_wp2_with fail
    refine (isNumber_any n _).mono ?_
    rintro e w1 ⟨rfl, rfl⟩
    rw [HB.out]
    go_wp2
    go_ret
    exact ⟨by rw [HN.out]; rfl, Below.refl _ _⟩
theorem conv_al {P : Program} {src e dst : TypeId} (hs : P.underlying src = some (.slice e)) (he : P.underlying e = some (.int .u8)) (hd : P.underlying dst = some .string) {wx wa : World} {x : Int} {g : Nat} (hg : wx.heap.size = g) (hb : Below (wx.alloc (.cells #[.int .u8 x] e)).heap.size (wx.alloc (.cells #[.int .u8 x] e)) wa) :
    (convert src dst (.slice (some ⟨g, 0, none⟩) 1 1)).run P wa = .ok (.string (mkB [UInt8.ofNat x.toNat])) wa := by
  subst hg
  exact conv_one hs he hd wa wx.heap.size 1 x (cell_later hb (by simp [go_sem]))
theorem conv_ald {P : Program} {src e dst : TypeId} (hs : P.underlying src = some (.slice e)) (he : P.underlying e = some (.int .u8)) (hd : P.underlying dst = some .string) {wx wa : World} {x : Int} {g : Nat} (hg : wx.heap.size = g) (hb : Below (wx.alloc (.cells #[.int .u8 x] e)).drew.heap.size (wx.alloc (.cells #[.int .u8 x] e)).drew wa) :
    (convert src dst (.slice (some ⟨g, 0, none⟩) 1 1)).run P wa = .ok (.string (mkB [UInt8.ofNat x.toNat])) wa := by
  subst hg
  exact conv_one hs he hd wa wx.heap.size 1 x (cell_later hb (by simp [go_sem]))
theorem kbD {w wx : World} (h : Below w.heap.size w wx) : Below w.heap.size w wx.drew := h.drew
theorem kbA {w wx : World} (o : Obj) (h : Below w.heap.size w wx) : Below w.heap.size w (wx.alloc o) := h.alloc h.size o
theorem kbB {w wx wa : World} (h : Below w.heap.size w wx) (hb : Below wx.heap.size wx wa) : Below w.heap.size w wa := h.trans (hb.mono h.size)
set_option maxHeartbeats 800000 in
set_option maxRecDepth 100000 in
theorem numText_small (n : Int) (hn : In64 n) (hs : ¬ (10 ≤ n ∧ n ≤ 281474976710655)) (w : World) :
    Calls Tryd.prog 10 #[.int .i64 n] w fun e w' => e = .returned (.string (mkB (numL n))) ∧ Below w.heap.size w w' := by
  unfold In64 at hn
  by_cases a : 0 ≤ n ∧ n ≤ 281474976710655
  · have HB := Lib.hid (numB_true a.1 a.2)
    have h10 : n < 10 := by omega
    have HN := Lib.hid (numL_one a.1 h10)
    have hw1 : IntKind.wrap .u8 (48 + n) = 48 + n := IntWalk.u8_in _ (by omega)
    have kc := conv_one (P := Tryd.prog) (src := 45) (dst := 9) Tryd.underlying45 Tryd.underlying5 Tryd.underlying9 (w.alloc (.cells #[.int .u8 (48 + n)] 5)) w.heap.size 1 (48 + n) (by simp [go_sem])
    rw [show UInt8.ofNat (48 + n).toNat = dgU n.toNat from by unfold dgU; congr 1; omega] at kc
    go_enter Tryd.func10, Tryd.ntmps10
    go_wp2_with fail
    refine (l01Num_any n _).mono ?_
    rintro e w1 ⟨rfl, rfl⟩
    rw [HB.out]
    go_wp2
    go_ret
    exact ⟨by rw [HN.out]; rfl, (Below.refl w.heap.size w).alloc (Nat.le_refl _) _⟩
  · have HN := Lib.hid (show mkB (numL n) = ⟨#[]⟩ by rw [numL_big a]; rfl)
    have HB := Lib.hid (numB_false a)
    go_enter Tryd.func10, Tryd.ntmps10
    go_wp2_with fail
    refine (l01Num_any n _).mono ?_
    rintro e w1 ⟨rfl, rfl⟩
    rw [HB.out]
    go_wp2
    go_ret
    exact ⟨by rw [HN.out]; rfl, Below.refl _ _⟩
set_option maxHeartbeats 1600000 in
set_option maxRecDepth 100000 in
theorem numText_spec : ∀ (m : Nat) (n : Int), n.toNat ≤ m → In64 n → ∀ w : World,
    Calls Tryd.prog 10 #[.int .i64 n] w fun e w' => e = .returned (.string (mkB (numL n))) ∧ Below w.heap.size w w' := by
  intro m
  induction m with
  | zero => exact fun n hm hn w => numText_small n hn (by omega) w
  | succ m ih =>
    intro n hm hn w
    by_cases a : 10 ≤ n ∧ n ≤ 281474976710655
    · unfold In64 at hn
      have HB := Lib.hid (numB_true (by omega) a.2)
      have HN := Lib.hid (numL_step (by omega) a.2)
      have hww : wrap64 (n / 10) = n / 10 := IntWalk.wrap64_in _ ⟨by omega, by omega⟩
      have hw1 : IntKind.wrap .u8 (48 + n % 10) = 48 + n % 10 := IntWalk.u8_in _ (by omega)
      have hDG : UInt8.ofNat (48 + n % 10).toNat = dgU (n % 10).toNat := by unfold dgU; congr 1; omega
      have HS : ¬ 9223372036854775807 < (mkB (numL (n / 10))).size + (mkB [dgU (n % 10).toNat]).size := sum_mk (by have := numL_len (n / 10); rw [List.length_singleton]; omega)
      go_enter Tryd.func10, Tryd.ntmps10
      go_wp2_with fail
      refine (l01Num_any n _).mono ?_
      rintro e w1 ⟨rfl, rfl⟩
      rw [HB.out]
      have hcg : ∀ w' : World, (convert 45 9 (.slice (some ⟨w'.heap.size, 0, none⟩) 1 1)).run Tryd.prog (w'.alloc (.cells #[.int .u8 (48 + n % 10)] 5)) = .ok (.string (mkB [dgU (n % 10).toNat])) (w'.alloc (.cells #[.int .u8 (48 + n % 10)] 5)) := fun w' => by
        rw [← hDG]
        exact conv_one Tryd.underlying45 Tryd.underlying5 Tryd.underlying9 _ _ 1 _ (by simp [go_sem])
      have hq : IntKind.i64.wrap (n.tdiv 10) = n / 10 := by rw [Int.tdiv_eq_ediv_of_nonneg (by omega)]; exact IntWalk.i64_in _ (by omega)
      have hz : IntKind.u8.wrap (IntKind.i64.wrap (48 + n.tmod 10)) = 48 + n % 10 := by rw [Int.tmod_eq_emod_of_nonneg (by omega), IntWalk.i64_in _ (by omega)]; exact hw1
      have HDG := Lib.hid hDG
      have hcgd : ∀ w' : World, (convert 45 9 (.slice (some ⟨w'.heap.size, 0, none⟩) 1 1)).run Tryd.prog (w'.alloc (.cells #[.int .u8 (48 + n % 10)] 5)).drew = .ok (.string (mkB [dgU (n % 10).toNat])) (w'.alloc (.cells #[.int .u8 (48 + n % 10)] 5)).drew := fun w' => by
        rw [← hDG]
        exact conv_one Tryd.underlying45 Tryd.underlying5 Tryd.underlying9 _ _ 1 _ (by simp [go_sem])
      clear hn HB hDG hww hw1
      go_wp2_with fail
      go_region_with (first | (go_at_call 10; (try rw [hq]); refine (ih (n / 10) (by omega) (by unfold In64; omega) _).mono ?_; rintro e wa ⟨rfl, hba⟩; (first | (have kc := conv_al (P := Tryd.prog) (src := 45) (dst := 9) (g := w.heap.size) Tryd.underlying45 Tryd.underlying5 Tryd.underlying9 rfl hba; rw [HDG.out] at kc) | (have kc := conv_ald (P := Tryd.prog) (src := 45) (dst := 9) (g := w.heap.size) Tryd.underlying45 Tryd.underlying5 Tryd.underlying9 rfl hba; rw [HDG.out] at kc) | skip)))
      all_goals
        clear hcg hcgd hq hz HS
        go_wp2
        go_ret
        exact ⟨by rw [HN.out, ← mkB_app]; rfl, by first | exact kbA _ (kbB (Below.refl _ _).drew hba) | exact kbB (kbD (kbA _ (Below.refl _ _))) hba | exact kbB (kbA _ (Below.refl _ _)) hba⟩
    · exact numText_small n hn a w
end Go.Proofs.YtgkgbpgnbnledaaDoor

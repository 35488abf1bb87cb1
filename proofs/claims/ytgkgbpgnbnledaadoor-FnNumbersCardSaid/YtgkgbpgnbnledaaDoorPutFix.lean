/- putFix, PutFix of the program, PutFix of the reference: what they compute. -/
import Derived.Test.YtgkgbpgnbnledaaDoorVar
import Derived.Test.YtgkgbpgnbnledaaDoorFix
namespace Go.Proofs.YtgkgbpgnbnledaaDoor
open Go.RowKit
def fdig (n : Nat) : List Int := (List.range 6).map fun i : Nat => (n : Int) / 2 ^ (8 * (5 - i)) % 256
theorem fdig_len (n : Nat) : (fdig n).length = 6 := by simp [fdig]
theorem fdig_step (n k : Nat) (h : k < 6) : (fdig n).take (6 - k) = (fdig n).take (6 - (k + 1)) ++ [(n : Int) / 2 ^ (8 * k) % 256] := by
  have e : 6 - k = (6 - (k + 1)) + 1 := by omega
  have hl : 6 - (k + 1) < (fdig n).length := by rw [fdig_len]; omega
  have hg : (fdig n)[6 - (k + 1)] = (n : Int) / 2 ^ (8 * k) % 256 := by
    simp only [fdig, List.getElem_map, List.getElem_range]
    rw [show 5 - (6 - (k + 1)) = k from by omega]
  rw [e, List.take_succ_eq_append_getElem hl, hg]
theorem fdig_all (n : Nat) : (fdig n).take (6 - 0) = fdig n := List.take_of_length_le (by rw [fdig_len]; omega)
theorem fdig_in8 (n : Nat) : ∀ y ∈ fdig n, In8 y := by
  intro y hy
  simp only [fdig, List.mem_map] at hy
  obtain ⟨i, _, rfl⟩ := hy
  unfold In8; omega
def putFixF (zs : List Int) (x : Int) : List Int × Bool := if numB x then (zs ++ fdig x.toNat, true) else ([], false)
theorem putFixF_yes (zs : List Int) {x : Int} (h : numB x = true) : putFixF zs x = (zs ++ fdig x.toNat, true) := by unfold putFixF; rw [if_pos h]
theorem putFixF_no (zs : List Int) {x : Int} (h : numB x = false) : putFixF zs x = ([], false) := by unfold putFixF; rw [if_neg (by rw [h]; simp)]

set_option maxRecDepth 100000 in
set_option maxHeartbeats 800000 in
theorem putFix_any (a : Option Addr) (n cap : Nat) (zs : List Int) (m : Nat) (B : Nat) (w : World) (h : w.ownsRow B 5 1 (.slice a n cap) n (zs.map (.int .u8))) (hz : zs.length = n) (hB : B ≤ w.heap.size) (hn : n ≤ 1099511627776) (_hm : m ≤ 4611686018427387903) :
    Calls Tryd.prog 64 #[.slice a n cap, .int .i64 m] w fun e w' => ∃ a' cap', e = .returned (.slice a' (n + 6) cap') ∧ w'.ownsRow B 5 1 (.slice a' (n + 6) cap') (n + 6) ((zs ++ fdig m).map (.int .u8)) ∧ Below B w w' := by
  obtain ⟨i0, hi, hz0, hz1, hz2⟩ := info_parts infoByteS
  have HZ := Lib.hid hz
  clear hz
  go_enter Tryd.func64, Tryd.ntmps64
  go_wp2
  go_loopw [0, 5] (fun v q wr => ∃ (a' : Option Addr) (cap' : Nat) (k : Nat), k ≤ 6 ∧ v = .slice a' (n + (6 - k)) cap' ∧ q = .int .i64 ((k : Int) - 1) ∧ wr.ownsRow B 5 1 (.slice a' (n + (6 - k)) cap') (n + (6 - k)) ((zs ++ (fdig m).take (6 - k)).map (.int .u8)) ∧ Below B w wr) (fun _ q _ => (intOf q + 1).toNat)
  case atStart => exact ⟨a, cap, 6, Nat.le_refl _, by simp, by go_num, by simpa using h, Below.refl _ _⟩
  case round =>
    obtain ⟨a', cap', k, hk, rfl, rfl, ho, hb⟩ := hrel
    clear h
    have hbz := hb.size
    by_cases hlt : k = 0
    · subst hlt
      go_wp2
      go_ret
      rw [fdig_all] at ho
      exact ⟨a', cap', rfl, ho, hb⟩
    · obtain ⟨j, rfl⟩ : ∃ j, k = j + 1 := ⟨k - 1, by omega⟩
      have hj5 : j ≤ 5 := by omega
      have hj : ((j + 1 : Nat) : Int) - 1 = (j : Int) := by omega
      rw [hj]
      have HS := Lib.hid (fdig_step m j (by omega))
      clear hj hlt
      obtain ⟨N, hN⟩ : ∃ N, N = n + (6 - (j + 1)) := ⟨_, rfl⟩
      rw [← hN] at ho
      rw [← hN]
      have hN1 : N ≤ n + 6 := by omega
      obtain ⟨XS, hXS⟩ : ∃ XS, XS = (zs ++ (fdig m).take (6 - (j + 1))).map (Value.int .u8) := ⟨_, rfl⟩
      rw [← hXS] at ho
      have HXS := Lib.hid hXS
      clear hXS
      have HN := Lib.hid hN
      clear hN
      go_wp2_with (at_builtin; refine app_any rfl _ _ 45 rfl B 5 Tryd.underlying45 hi hz0 hz1 hz2 rfl (by decide) a' N cap' _ rfl (ho.alloc _) (some ⟨wr.heap.size, 0, none⟩) 1 1 [.int .u8 ((m : Int) / 2 ^ (8 * j) % 256)] rfl rfl (one_news _ _ _) (fun hh => by cases hh) (int_one _ _) ?c4 ?c5 ?c6 ?_)
      case c4 => unfold maxLen; omega
      case c5 => omega
      case c6 => first | omega | (simp; omega)
      intro A C w2 ho2 hb2
      go_wp2
      go_roundw
      case rel =>
        have e1 : N + 1 = n + (6 - j) := by have := HN.out; omega
        refine ⟨A, C, j, by omega, by rw [← e1], by go_num, ?_, (hb.alloc (by omega) _).trans hb2⟩
        rw [← e1, HS.out, ← List.append_assoc, List.map_append, ← HXS.out]
        exact ho2
      case measure => simp [intOf]

set_option maxHeartbeats 800000 in
theorem PutFix_impl (a : Option Addr) (n cap : Nat) (zs : List Int) (x : Int) (w : World) (h : Rd (encI .u8) 1 w a n cap zs) (_g0 : ∀ y ∈ zs, In8 y) (_g1 : In64 x) (hn : n ≤ 1099511627775) :
    Calls Tryd.prog 38 #[.slice a n cap, .int .i64 x] w fun e w' => RetB .u8 5 (putFixF zs x) w e w' := by
  have HL := Lib.hid h.len
  by_cases hx : 0 ≤ x ∧ x ≤ 281474976710655
  · obtain ⟨h0, h1⟩ := hx
    have HT := Lib.hid (numB_true h0 h1)
    obtain ⟨m, rfl⟩ := Int.eq_ofNat_of_zero_le h0
    go_enter Tryd.func38, Tryd.ntmps38
    go_wp2_with fail
    refine (isNumber_any _ _).mono ?_
    rintro e w' ⟨rfl, rfl⟩
    rw [HT.out]
    go_wp2_with fail
    refine (copyBytes_any _ _ _ zs _ h (by omega)).mono ?_
    rintro e w1 ⟨a1, c1, rfl, ho1, hb1⟩
    go_wp2_with fail
    refine (putFix_any _ _ _ zs m w.heap.size _ ho1 HL.out hb1.size (by omega) (by omega)).mono ?_
    rintro e w2 ⟨a2, c2, rfl, ho2, hb2⟩
    go_wp2
    go_ret2
    rw [putFixF_yes zs HT.out, Int.toNat_natCast]
    exact ⟨a2, n + 6, c2, rfl, OwnI.of ho2 (by rw [List.length_append, HL.out, fdig_len]) (by omega), hb1.trans hb2⟩
  · have HT := Lib.hid (numB_false hx)
    clear hx
    go_enter Tryd.func38, Tryd.ntmps38
    go_wp2_with fail
    refine (isNumber_any _ _).mono ?_
    rintro e w' ⟨rfl, rfl⟩
    rw [HT.out]
    go_wp2
    go_ret2
    rw [putFixF_no zs HT.out]
    exact ⟨none, 0, 0, rfl, OwnI.nil _ _ _ _, Below.refl _ _⟩
theorem div256 (m i : Nat) : m / 256 ^ i / 256 = m / 256 ^ (i + 1) := by rw [Nat.div_div_eq_div_mul, Nat.pow_succ]
theorem pow256 (m j : Nat) : ((m / 256 ^ j : Nat) : Int) % 256 = (m : Int) / 2 ^ (8 * j) % 256 := by
  have : (256 : Nat) ^ j = 2 ^ (8 * j) := by rw [Nat.pow_mul]
  rw [this]
  simp

end Go.Proofs.YtgkgbpgnbnledaaDoor

/- putVar, PutVar, copyBytes, isNumber of the program, PutVar, l01Num of the reference: what they compute. -/
import Derived.Test.YtgkgbpgnbnledaaDoorApp
import Derived.Test.YtgkgbpgnbnledaaDoorNum
import Derived.Test.YtgkgbpgnbnledaaDoorByteS
namespace Go.Proofs.YtgkgbpgnbnledaaDoor
open Go.RowKit

def vdig (n : Nat) : List Int := if n < 128 then [(n : Int)] else ((n % 128 + 128 : Nat) : Int) :: vdig (n / 128)
termination_by n
decreasing_by omega
theorem vdig_lt {n : Nat} (h : n < 128) : vdig n = [(n : Int)] := by rw [vdig, if_pos h]
theorem vdig_ge {n : Nat} (h : ¬ n < 128) : vdig n = ((n % 128 + 128 : Nat) : Int) :: vdig (n / 128) := by rw [vdig, if_neg h]
theorem vdig_len : ∀ (k n : Nat), n < 128 ^ (k + 1) → (vdig n).length ≤ k + 1 := by
  intro k
  induction k with
  | zero => intro n h; rw [vdig_lt (by simpa using h)]; simp
  | succ k ih =>
    intro n h
    by_cases hn : n < 128
    · rw [vdig_lt hn]; simp
    · rw [vdig_ge hn]
      have : n / 128 < 128 ^ (k + 1) := by
        rw [Nat.div_lt_iff_lt_mul (by omega)]
        rw [Nat.pow_succ] at h; exact h
      have := ih (n / 128) this
      simp; omega
theorem vdig_in8 : ∀ (k n : Nat), n ≤ k → ∀ y ∈ vdig n, In8 y := by
  intro k
  induction k with
  | zero => intro n h y hy; rw [vdig_lt (by omega)] at hy; simp at hy; unfold In8; omega
  | succ k ih =>
    intro n h y hy
    by_cases hn : n < 128
    · rw [vdig_lt hn] at hy; simp at hy; unfold In8; omega
    · rw [vdig_ge hn, List.mem_cons] at hy
      rcases hy with rfl | hy
      · unfold In8; omega
      · exact ih (n / 128) (by omega) y hy
theorem vdig_len7 {n : Nat} (h : n ≤ 281474976710655) : (vdig n).length ≤ 7 := vdig_len 6 n (by omega)
theorem vdig_len9 {n : Nat} (h : n ≤ 4611686018427387903) : (vdig n).length ≤ 9 := vdig_len 8 n (by omega)

set_option maxHeartbeats 400000 in
theorem copyBytes_any (a : Option Addr) (n cap : Nat) (zs : List Int) (w : World) (h : Rd (encI .u8) 1 w a n cap zs) (hn : n ≤ 1099511627776) :
    Calls Tryd.prog 62 #[.slice a n cap] w fun e w' => ∃ a' cap', e = .returned (.slice a' n cap') ∧ w'.ownsRow w.heap.size 5 1 (.slice a' n cap') n (zs.map (.int .u8)) ∧ Below w.heap.size w w' := by
  obtain ⟨i0, hi, hz0, hz1, hz2⟩ := info_parts infoByteS
  have hL := Lib.hid h.len
  have HC := Lib.hid h.news
  have HN := Lib.hid h.none
  go_enter Tryd.func62, Tryd.ntmps62
  go_wp2_with (at_builtin; refine app_any rfl _ _ 45 rfl w.heap.size 5 Tryd.underlying45 hi hz0 hz1 hz2 rfl (by decide) none 0 0 [] rfl (World.ownsRow_nil _ _ _ _) a n cap (zs.map (.int .u8)) rfl ?c0 ?c1 ?c2 ?c3 ?c4 ?c5 ?c6 ?_)
  case c0 => rw [List.length_map, hL.out, Nat.mul_one]
  case c1 => exact HC.out
  case c2 => exact HN.out
  case c3 => exact ints_oneCell _ _
  case c4 => unfold maxLen; omega
  case c5 => omega
  case c6 => exact Nat.le_refl _
  intro A C w' ho hb
  go_wp2
  go_ret
  exact ⟨A, C, by simp, by simpa using ho, hb⟩

set_option maxRecDepth 100000 in
set_option maxHeartbeats 800000 in
/-- putVar appends the digits of m to a row of the caller's own. -/
theorem putVar_any (a : Option Addr) (n cap : Nat) (zs : List Int) (m : Nat) (B : Nat) (w : World) (h : w.ownsRow B 5 1 (.slice a n cap) n (zs.map (.int .u8))) (hz : zs.length = n) (hB : B ≤ w.heap.size) (hn : n ≤ 1099511627776) (hm : m ≤ 4611686018427387903) :
    Calls Tryd.prog 61 #[.slice a n cap, .int .i64 m] w fun e w' => ∃ a' n' cap', e = .returned (.slice a' n' cap') ∧ w'.ownsRow B 5 1 (.slice a' n' cap') n' ((zs ++ vdig m).map (.int .u8)) ∧ n' = n + (vdig m).length ∧ Below B w w' := by
  obtain ⟨i0, hi, hz0, hz1, hz2⟩ := info_parts infoByteS
  have hlen := vdig_len9 hm
  have HZ := Lib.hid hz
  clear hz
  go_enter Tryd.func61, Tryd.ntmps61
  go_wp2
  go_loopw [0, 1] (fun v q wr => ∃ (a' : Option Addr) (n' cap' : Nat) (xs : List Int) (p : Nat), v = .slice a' n' cap' ∧ q = .int .i64 p ∧ p ≤ m ∧ wr.ownsRow B 5 1 (.slice a' n' cap') n' (xs.map (.int .u8)) ∧ xs.length = n' ∧ Hid (xs ++ vdig p = zs ++ vdig m) ∧ n' + (vdig p).length ≤ n + (vdig m).length ∧ Below B w wr) (fun _ q _ => (intOf q).toNat)
  case atStart => exact ⟨a, n, cap, zs, m, rfl, rfl, Nat.le_refl _, h, HZ.out, rfl, Nat.le_refl _, Below.refl _ _⟩
  case round =>
    obtain ⟨a', n', cap', xs, p, rfl, rfl, hp, ho, hx, he, hl, hb⟩ := hrel
    have HX := Lib.hid hx
    clear hx h
    have hbz := hb.size
    by_cases hlt : p < 128
    · have HV := Lib.hid (vdig_lt hlt)
      go_wp2_with (at_builtin; refine app_any rfl _ _ 45 rfl B 5 Tryd.underlying45 hi hz0 hz1 hz2 rfl (by decide) a' n' cap' (xs.map (.int .u8)) rfl (ho.alloc _) (some ⟨wr.heap.size, 0, none⟩) 1 1 [.int .u8 (p : Int)] rfl rfl (one_news _ _ _) (fun hh => by cases hh) (int_one _ _) ?c4 ?c5 ?c6 ?_)
      case c4 => unfold maxLen; omega
      case c5 => omega
      case c6 => simp; omega
      intro A C w2 ho2 hb2
      go_wp2
      go_ret
      refine ⟨A, n' + 1, C, rfl, ?_, ?_, (hb.alloc (by omega) _).trans hb2⟩
      · rw [← he.out, HV.out, List.map_append]; exact ho2
      · have := congrArg List.length he.out
        simp only [List.length_append, HV.out, HX.out, HZ.out, List.length_cons, List.length_nil] at this
        omega
    · have HV := Lib.hid (vdig_ge hlt)
      have hlen2 : (vdig p).length = 1 + (vdig (p / 128)).length := by rw [HV.out]; simp; omega
      have HL2 := Lib.hid hlen2
      clear hlen2
      have hbd : n' + 1 ≤ n + (vdig m).length := by have := HL2.out; omega
      go_wp2_with (at_builtin; refine app_any rfl _ _ 45 rfl B 5 Tryd.underlying45 hi hz0 hz1 hz2 rfl (by decide) a' n' cap' (xs.map (.int .u8)) rfl (ho.alloc _) (some ⟨wr.heap.size, 0, none⟩) 1 1 [.int .u8 ((p % 128 + 128 : Nat) : Int)] rfl rfl (one_news _ _ _) (fun hh => by cases hh) (int_one _ _) ?d4 ?d5 ?d6 ?_)
      case d4 => unfold maxLen; omega
      case d5 => omega
      case d6 => simp; omega
      intro A C w2 ho2 hb2
      go_wp2
      go_roundw
      case rel =>
        refine ⟨A, n' + 1, C, xs ++ [((p % 128 + 128 : Nat) : Int)], p / 128, rfl, by go_num, by omega, ?_, by rw [List.length_append, HX.out]; rfl, ?_, by have := HL2.out; omega, (hb.alloc (by omega) _).trans hb2⟩
        · rw [List.map_append]; exact ho2
        · show _ ++ _ ++ _ = _
          rw [← he.out, HV.out, List.append_assoc]; rfl
      case measure => simp [intOf]; omega

def putVarF (zs : List Int) (x : Int) : List Int × Bool := if numB x then (zs ++ vdig x.toNat, true) else ([], false)
theorem putVarF_yes (zs : List Int) {x : Int} (h : numB x = true) : putVarF zs x = (zs ++ vdig x.toNat, true) := by unfold putVarF; rw [if_pos h]
theorem putVarF_no (zs : List Int) {x : Int} (h : numB x = false) : putVarF zs x = ([], false) := by unfold putVarF; rw [if_neg (by rw [h]; simp)]

set_option maxHeartbeats 800000 in
theorem PutVar_impl (a : Option Addr) (n cap : Nat) (zs : List Int) (x : Int) (w : World) (h : Rd (encI .u8) 1 w a n cap zs) (_g0 : ∀ y ∈ zs, In8 y) (_g1 : In64 x) (hn : n ≤ 1099511627775) :
    Calls Tryd.prog 34 #[.slice a n cap, .int .i64 x] w fun e w' => RetB .u8 5 (putVarF zs x) w e w' := by
  have HL := Lib.hid h.len
  by_cases hx : 0 ≤ x ∧ x ≤ 281474976710655
  · obtain ⟨h0, h1⟩ := hx
    have HT := Lib.hid (numB_true h0 h1)
    obtain ⟨m, rfl⟩ := Int.eq_ofNat_of_zero_le h0
    go_enter Tryd.func34, Tryd.ntmps34
    go_wp2_with fail
    refine (isNumber_any _ _).mono ?_
    rintro e w' ⟨rfl, rfl⟩
    rw [HT.out]
    go_wp2_with fail
    refine (copyBytes_any _ _ _ zs _ h (by omega)).mono ?_
    rintro e w1 ⟨a1, c1, rfl, ho1, hb1⟩
    go_wp2_with fail
    refine (putVar_any _ _ _ zs m w.heap.size _ ho1 HL.out hb1.size (by omega) (by omega)).mono ?_
    rintro e w2 ⟨a2, n2, c2, rfl, ho2, hn2, hb2⟩
    have HN := Lib.hid hn2
    clear hn2
    go_wp2
    go_ret2
    have hv := vdig_len7 (n := m) (by omega)
    rw [putVarF_yes zs HT.out, Int.toNat_natCast]
    exact ⟨a2, n2, c2, rfl, OwnI.of ho2 (by rw [List.length_append, HL.out, HN.out]) (by rw [HN.out]; omega), hb1.trans hb2⟩
  · have HT := Lib.hid (numB_false hx)
    clear hx
    go_enter Tryd.func34, Tryd.ntmps34
    go_wp2_with fail
    refine (isNumber_any _ _).mono ?_
    rintro e w' ⟨rfl, rfl⟩
    rw [HT.out]
    go_wp2
    go_ret2
    rw [putVarF_no zs HT.out]
    exact ⟨none, 0, 0, rfl, OwnI.nil _ _ _ _, Below.refl _ _⟩
end Go.Proofs.YtgkgbpgnbnledaaDoor

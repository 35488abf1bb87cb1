/- Crc of the program and of the reference: what they compute. -/
import Derived.Test.YtgkgbpgnbnledaaDoorFix
namespace Go.Proofs.YtgkgbpgnbnledaaDoor
open Go.RowKit

def POLY : Nat := 3988292384
def ONES : Nat := 4294967295
def cstep (r : Nat) : Nat := if r % 2 = 1 then (r / 2) ^^^ POLY else r / 2
def cbits : Nat → Nat → Nat
  | 0, r => r
  | k + 1, r => cstep (cbits k r)
def cbyte (r : Nat) (y : Int) : Nat := cbits 8 (r ^^^ y.toNat)
def crcR (l : List Int) : Nat := l.foldl cbyte ONES
def crcN (l : List Int) : Nat := ONES - crcR l
theorem cstep_lt {r : Nat} (h : r < 4294967296) : cstep r < 4294967296 := by
  unfold cstep
  split
  · exact Nat.xor_lt_two_pow (n := 32) (by omega) (by unfold POLY; omega)
  · omega
theorem cbits_lt : ∀ k {r : Nat}, r < 4294967296 → cbits k r < 4294967296
  | 0, _, h => h
  | k + 1, _, h => cstep_lt (cbits_lt k h)
theorem xor8_lt {r : Nat} (h : r < 4294967296) {y : Int} (hy : y ≤ 255) : r ^^^ y.toNat < 4294967296 := Nat.xor_lt_two_pow (n := 32) (by omega) (by omega)
theorem cbyte_lt {r : Nat} (h : r < 4294967296) {y : Int} (hy : y ≤ 255) : cbyte r y < 4294967296 := cbits_lt 8 (xor8_lt h hy)
theorem crcR_snoc (l : List Int) (y : Int) : crcR (l ++ [y]) = cbyte (crcR l) y := by simp [crcR, List.foldl_append]
theorem foldl_lt : ∀ (l : List Int), (∀ y ∈ l, In8 y) → ∀ r, r < 4294967296 → l.foldl cbyte r < 4294967296 := by
  intro l
  induction l with
  | nil => intro _ r h; exact h
  | cons y t ih =>
    intro hy r h
    have := hy y (by simp)
    unfold In8 at this
    exact ih (fun z hz => hy z (by simp [hz])) _ (cbyte_lt h this.2)
theorem crcR_lt (l : List Int) (h : ∀ y ∈ l, In8 y) : crcR l < 4294967296 := foldl_lt l h ONES (by unfold ONES; omega)
theorem crcN_le (l : List Int) : crcN l ≤ 4294967295 := by unfold crcN ONES; omega
theorem xor_ones {r : Nat} (h : r < 4294967296) : r ^^^ 4294967295 = 4294967295 - r := by
  have h1 : (BitVec.ofNat 32 r ^^^ BitVec.allOnes 32).toNat = r ^^^ 4294967295 := by
    rw [BitVec.toNat_xor, BitVec.toNat_ofNat, Nat.mod_eq_of_lt (by omega)]; rfl
  rw [← h1, BitVec.xor_allOnes, BitVec.toNat_not, BitVec.toNat_ofNat, Nat.mod_eq_of_lt (by omega)]
theorem take_snoc8 (zs : List Int) (k : Nat) (h : k < zs.length) : zs.take (k + 1) = zs.take k ++ [zs.getD k 0] := by
  rw [List.take_succ_eq_append_getElem h]; simp [List.getD, h]
theorem cstep_odd {r : Nat} (h : r % 2 = 1) : cstep r = (r / 2) ^^^ POLY := by unfold cstep; rw [if_pos h]
theorem cstep_even {r : Nat} (h : ¬ r % 2 = 1) : cstep r = r / 2 := by unfold cstep; rw [if_neg h]

set_option maxRecDepth 100000 in
set_option maxHeartbeats 1600000 in
theorem crc_impl (a : Option Addr) (n cap : Nat) (zs : List Int) (w : World) (h : Rd (encI .u8) 1 w a n cap zs) (g0 : ∀ y ∈ zs, In8 y) :
    Calls Tryd.prog 33 #[.slice a n cap] w fun e w' => e = .returned (.int .i64 (crcN zs)) ∧ Below w.heap.size w w' := by
  have hL := Lib.hid h.len
  have hm := h.max
  have hle := h.le
  unfold maxLen at hm
  go_enter Tryd.func33, Tryd.ntmps33
  go_wp2
  go_loopw [3, 9] (fun v i wr => ∃ k : Nat, k ≤ n ∧ i = .int .i64 k ∧ v = .int .u32 (crcR (zs.take k)) ∧ Below w.heap.size w wr) (fun _ i _ => n - (intOf i).toNat)
  case atStart => exact ⟨0, by omega, rfl, rfl, Below.refl _ _⟩
  case round =>
    obtain ⟨k, hk, rfl, rfl, hb⟩ := hrel
    have hR := crcR_lt (zs.take k) (fun y hy => g0 y (List.mem_of_mem_take hy))
    by_cases hlt : k < n
    · obtain ⟨b1, off1, rfl, hbl1, hc1⟩ := h.ints (by omega)
      have hcell1 : wr.cell? ⟨b1, off1 + k, none⟩ = some (.int .u8 (zs[k]?.getD 0)) := (hb.cell (p := ⟨b1, off1 + k, none⟩) hbl1).trans (by simpa [List.getD] using hc1 k hlt)
      have hki : (k : Int) < (n : Int) := by omega
      have HS := Lib.hid (take_snoc8 zs k (by rw [hL.out]; exact hlt))
      obtain ⟨hx0, hx1⟩ := in8_getD g0 k
      obtain ⟨X, hX⟩ : ∃ X : Nat, zs[k]?.getD 0 = (X : Int) := Int.eq_ofNat_of_zero_le hx0
      obtain ⟨R, hRR⟩ : ∃ R, R = crcR (zs.take k) := ⟨_, rfl⟩
      rw [← hRR] at hR ⊢
      have HX := Lib.hid hX
      have HR := Lib.hid hRR
      rw [hX] at hcell1 hx1
      clear hX hRR hx0 hc1
      have hxor : bits .xor .u32 (R : Int) (X : Int) = ((R ^^^ X : Nat) : Int) := u32_xor_nat R X (by omega) (by omega)
      have hRX : R ^^^ X < 4294967296 := Nat.xor_lt_two_pow (n := 32) (by omega) (by omega)
      go_wp2
      obtain ⟨wo, hwo⟩ : ∃ wo : World, wo = wr := ⟨_, rfl⟩
      subst hwo
      obtain ⟨S, hS⟩ : ∃ S, S = R ^^^ X := ⟨_, rfl⟩
      rw [← hS] at hRX ⊢
      have HSS := Lib.hid hS
      clear hS hxor
      go_loop [3, 6, 17] (fun v o i => ∃ t : Nat, t ≤ 8 ∧ i = .int .i64 t ∧ v = .int .u32 (cbits t S)) (fun _ _ i => 8 - (intOf i).toNat)
      case atStart => exact ⟨0, by omega, rfl, rfl⟩
      case round =>
        obtain ⟨t, ht, rfl, rfl⟩ := hrel
        have hT := cbits_lt t hRX
        have HB : Hid (cbits (t + 1) S = cstep (cbits t S)) := rfl
        obtain ⟨T, hTT⟩ : ∃ T, T = cbits t S := ⟨_, rfl⟩
        rw [← hTT] at hT ⊢
        have HT := Lib.hid hTT
        clear hTT
        by_cases htj : t < 8
        · by_cases ho : T % 2 = 1
          · have HC := Lib.hid (cstep_odd ho)
            have hxp : bits .xor .u32 ((T : Int) / 2) 3988292384 = ((T / 2 ^^^ 3988292384 : Nat) : Int) := by
              have := u32_xor_nat (T / 2) 3988292384 (by omega) (by omega)
              simpa using this
            have hod : (T : Int) % 2 = 1 := by omega
            have hand : bits .and .u32 (T : Int) 1 = 1 := by
              have := u32_and_nat T 1 (by omega) (by omega)
              rw [Nat.and_one_is_mod, ho] at this
              simpa using this
            clear ho
            go_wp2
            go_round
            case rel => exact ⟨t + 1, by omega, by go_num, by rw [HB.out, ← HT.out, HC.out]; rfl⟩
            case measure => simp [intOf]; omega
          · have HC := Lib.hid (cstep_even ho)
            have hev : (T : Int) % 2 = 0 := by omega
            have hand : bits .and .u32 (T : Int) 1 = 0 := by
              have := u32_and_nat T 1 (by omega) (by omega)
              rw [Nat.and_one_is_mod, show T % 2 = 0 from by omega] at this
              simpa using this
            clear ho
            go_wp2
            go_round
            case rel => exact ⟨t + 1, by omega, by go_num, by rw [HB.out, ← HT.out, HC.out]; go_num⟩
            case measure => simp [intOf]; omega
        · obtain rfl : t = 8 := by omega
          go_wp2
          go_roundw
          case rel => exact ⟨k + 1, by omega, by go_num, by rw [HT.out, HS.out, crcR_snoc, ← HR.out, cbyte, show zs.getD k 0 = (X : Int) from by simpa [List.getD] using HX.out, Int.toNat_natCast, ← HSS.out], hb⟩
          case measure => simp [intOf]; omega
    · obtain rfl : k = n := by omega
      have HT := Lib.hid (show zs.take k = zs from List.take_of_length_le (by rw [hL.out]; exact Nat.le_refl _))
      obtain ⟨R, hRR⟩ : ∃ R, R = crcR (zs.take k) := ⟨_, rfl⟩
      rw [← hRR] at hR ⊢
      have HR := Lib.hid hRR
      clear hRR
      have hxp : bits .xor .u32 IntKind.u32.max (R : Int) = ((4294967295 - R : Nat) : Int) := by
        have h1 := u32_xor_nat 4294967295 R (by omega) (by omega)
        rw [Nat.xor_comm, xor_ones hR] at h1
        exact h1
      have hle2 : ((4294967295 - R : Nat) : Int) ≤ 4294967295 := by omega
      go_wp2
      go_ret
      have hc : crcN zs = 4294967295 - R := by rw [HR.out, HT.out]; rfl
      exact ⟨ret_i (by rw [hc, IntWalk.wrap64_in _ ⟨by omega, by omega⟩]), hb⟩
end Go.Proofs.YtgkgbpgnbnledaaDoor

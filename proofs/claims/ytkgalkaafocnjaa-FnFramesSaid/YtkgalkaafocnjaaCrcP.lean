/- One byte turned is seen by the checksum. No program. -/
import Derived.Test.YtkgalkaafocnjaaCrc
namespace Go.Proofs.Ytkgalkaafocnjaa
open Go.RowKit
theorem xor_cancel {a b c : Nat} (h : a ^^^ c = b ^^^ c) : a = b := by
  have e := congrArg (· ^^^ c) h
  simpa [Nat.xor_assoc] using e
theorem xor_cancel_left {a b c : Nat} (h : c ^^^ a = c ^^^ b) : a = b := xor_cancel (c := c) (by rw [Nat.xor_comm a c, Nat.xor_comm b c]; exact h)
theorem top_odd {r : Nat} (h : r < 4294967296) : ((r / 2) ^^^ POLY).testBit 31 = true := by
  rw [Nat.testBit_xor, Nat.testBit_lt_two_pow (show r / 2 < 2 ^ 31 by omega)]
  decide
theorem top_even {r : Nat} (h : r < 4294967296) : (r / 2).testBit 31 = false := Nat.testBit_lt_two_pow (show r / 2 < 2 ^ 31 by omega)
theorem cstep_inj {r s : Nat} (hr : r < 4294967296) (hs : s < 4294967296) (h : cstep r = cstep s) : r = s := by
  by_cases h1 : r % 2 = 1
  · by_cases h2 : s % 2 = 1
    · rw [cstep_odd h1, cstep_odd h2] at h
      have := xor_cancel h
      omega
    · rw [cstep_odd h1, cstep_even h2] at h
      have e1 := top_odd hr
      rw [h, top_even hs] at e1
      cases e1
  · by_cases h2 : s % 2 = 1
    · rw [cstep_even h1, cstep_odd h2] at h
      have e1 := top_odd hs
      rw [← h, top_even hr] at e1
      cases e1
    · rw [cstep_even h1, cstep_even h2] at h
      omega
theorem cbits_inj : ∀ (k : Nat) {r s : Nat}, r < 4294967296 → s < 4294967296 → cbits k r = cbits k s → r = s
  | 0, _, _, _, _, h => h
  | k + 1, _, _, hr, hs, h => cbits_inj k hr hs (cstep_inj (cbits_lt k hr) (cbits_lt k hs) h)
theorem cbyte_inj {r s : Nat} {y : Int} (hr : r < 4294967296) (hs : s < 4294967296) (hy : y ≤ 255) (h : cbyte r y = cbyte s y) : r = s :=
  xor_cancel (cbits_inj 8 (xor8_lt hr hy) (xor8_lt hs hy) h)
theorem cbyte_inj2 {r : Nat} {y z : Int} (hr : r < 4294967296) (hy : In8 y) (hz : In8 z) (h : cbyte r y = cbyte r z) : y = z := by
  have e := xor_cancel_left (cbits_inj 8 (xor8_lt hr hy.2) (xor8_lt hr hz.2) h)
  have := hy.1
  have := hz.1
  omega
theorem foldc_inj : ∀ (l : List Int), (∀ y ∈ l, In8 y) → ∀ r s, r < 4294967296 → s < 4294967296 → l.foldl cbyte r = l.foldl cbyte s → r = s
  | [], _, _, _, _, _, h => h
  | y :: l, h8, r, s, hr, hs, h => cbyte_inj hr hs (h8 y (by simp)).2 (foldc_inj l (fun z hz => h8 z (by simp [hz])) _ _ (cbyte_lt hr (h8 y (by simp)).2) (cbyte_lt hs (h8 y (by simp)).2) h)
/-- A byte turned turns the checksum. -/
theorem crcN_turn {a b : List Int} {y z : Int} (ha : ∀ x ∈ a, In8 x) (hb : ∀ x ∈ b, In8 x) (hy : In8 y) (hz : In8 z) (h : crcN (a ++ y :: b) = crcN (a ++ z :: b)) : y = z := by
  have h8y : ∀ x ∈ a ++ y :: b, In8 x := by
    intro x hx
    rcases List.mem_append.1 hx with hx | hx
    · exact ha x hx
    · rcases List.mem_cons.1 hx with hx | hx
      · rw [hx]; exact hy
      · exact hb x hx
  have h8z : ∀ x ∈ a ++ z :: b, In8 x := by
    intro x hx
    rcases List.mem_append.1 hx with hx | hx
    · exact ha x hx
    · rcases List.mem_cons.1 hx with hx | hx
      · rw [hx]; exact hz
      · exact hb x hx
  have e1 := crcR_lt _ h8y
  have e2 := crcR_lt _ h8z
  have e : crcR (a ++ y :: b) = crcR (a ++ z :: b) := by unfold crcN ONES at h; omega
  unfold crcR at e
  rw [List.foldl_append, List.foldl_append, List.foldl_cons, List.foldl_cons] at e
  have hA := crcR_lt a ha
  unfold crcR at hA
  exact cbyte_inj2 hA hy hz (foldc_inj b hb _ _ (cbyte_lt hA hy.2) (cbyte_lt hA hz.2) e)
end Go.Proofs.Ytkgalkaafocnjaa

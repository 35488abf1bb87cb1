/- The helpers markByteS, heldByteS of the statements: what each call does. -/
import Derived.Test.YtoodlmhnemamhaaRows
import Derived.Test.YtoodlmhnemamhaaOwn
namespace Go.Proofs.Ytoodlmhnemamhaa
open Go.RowKit

set_option maxHeartbeats 400000 in
theorem markByteS_row (a : Option Addr) (n cap : Nat) (zs : List Int) (k : Int) (B : Nat) (w : World) (hz : zs.length = n) (h : w.ownsRow B 5 1 (.slice a n cap) n (zs.map (.int .u8))) (hn : n ≤ 4611686018427387904) (hk0 : 0 ≤ k) (hk1 : k ≤ 2305843009213693952) :
    Calls Try.prog 27 #[.slice a n cap, .int .i64 k] w fun e w' => e = .returned (.int .i64 (k + n)) ∧ w'.ownsRow B 5 1 (.slice a n cap) n ((mks by8 k n).map (.int .u8)) ∧ w.grownBy w' (Value.slice a n cap).ownBlock := by
  have HZ := Lib.hid hz
  clear hz
  go_enter Try.func27, Try.ntmps27
  go_wp2
  go_loopw [1, 5] (fun q i wr => ∃ j : Nat, j ≤ n ∧ i = .int .i64 j ∧ q = .int .i64 (k + j) ∧ wr.ownsRow B 5 1 (.slice a n cap) n ((mks by8 k j ++ zs.drop j).map (.int .u8)) ∧ w.grownBy wr (Value.slice a n cap).ownBlock) (fun _ i _ => n - (intOf i).toNat)
  case atStart => exact ⟨0, Nat.zero_le _, rfl, by go_num, h, grown_refl _ _⟩
  case round =>
    obtain ⟨j, hj, rfl, rfl, ho, hb⟩ := hrel
    by_cases hlt : j < n
    · obtain ⟨g, rfl⟩ := own_some ho (by omega)
      obtain ⟨d, hd⟩ := own_cell ho j hlt
      have hfr := ho.frozenAt j
      have hst := ho.stored j (.int .u8 (by8 (k + (j : Int))))
      rw [← List.map_set, mks_set by8 k zs j (by rw [HZ.out]; exact hlt)] at hst
      clear h
      go_wp2
      go_roundw
      case rel => exact ⟨j + 1, by omega, by go_num, by go_num, hst.1, grown_trans hb hst.2⟩
      case measure => simp [intOf]; omega
    · obtain rfl : j = n := by omega
      rw [← HZ.out, mks_all, HZ.out] at ho
      go_wp2
      go_ret
      exact ⟨rfl, ho, hb⟩

theorem markByteS_any (a : Option Addr) (n cap : Nat) (zs : List Int) (k : Int) (lo hi : Nat) (w : World) (h : OwnI .u8 5 lo hi w a n cap zs) (hk0 : 0 ≤ k) (hk1 : k ≤ 2305843009213693952) :
    Calls Try.prog 27 #[.slice a n cap, .int .i64 k] w fun e w' => e = .returned (.int .i64 (k + n)) ∧ OwnI .u8 5 lo hi w' a n cap (mks by8 k n) ∧ Win lo hi w w' := by
  refine (markByteS_row a n cap zs k lo w h.len h.own h.small hk0 hk1).mono ?_
  rintro e w' ⟨rfl, ho, hg⟩
  exact ⟨rfl, ⟨mks_len _ _ _, ho, h.lt, Nat.le_trans h.top hg.size, h.small⟩, Win.of_grown hg (fun g hgg => ⟨(World.ownsRow.lt h.own g hgg).1, h.lt g hgg⟩)⟩

set_option maxHeartbeats 400000 in
theorem heldByteS_any (a : Option Addr) (n cap : Nat) (k : Int) (w : World) (h : Rd (encI .u8) 1 w a n cap (mks by8 k n)) (hn : n ≤ 4611686018427387904) (hk0 : 0 ≤ k) (hk1 : k ≤ 2305843009213693952) :
    Calls Try.prog 28 #[.slice a n cap, .int .i64 k] w fun e w' => e = .returned (.int .i64 (k + n)) ∧ Below w.heap.size w w' := by
  have hm := h.max
  have hle := h.le
  unfold maxLen at hm
  go_enter Try.func28, Try.ntmps28
  go_wp2
  go_loopw [1, 5] (fun q i wr => ∃ j : Nat, j ≤ n ∧ i = .int .i64 j ∧ q = .int .i64 (k + j) ∧ Below w.heap.size w wr) (fun _ i _ => n - (intOf i).toNat)
  case atStart => exact ⟨0, Nat.zero_le _, rfl, by go_num, Below.refl _ _⟩
  case round =>
    obtain ⟨j, hj, rfl, rfl, hb⟩ := hrel
    by_cases hlt : j < n
    · obtain ⟨b1, off1, rfl, hbl1, hc1⟩ := h.ints (by omega)
      have hcell1 : wr.cell? ⟨b1, off1 + j, none⟩ = some (.int .u8 (by8 (k + (j : Int)))) := (hb.cell (p := ⟨b1, off1 + j, none⟩) hbl1).trans ((hc1 j hlt).trans (by rw [← mks_get by8 k n j hlt]; rfl))
      unfold by8 at hcell1
      have hi1 : (j : Int) < (n : Int) := by omega
      clear hc1 h
      go_wp2
      go_roundw
      case rel => exact ⟨j + 1, by omega, by go_num, by go_num, hb⟩
      case measure => simp [intOf]; omega
    · obtain rfl : j = n := by omega
      go_wp2
      go_ret
      exact ⟨rfl, hb⟩
end Go.Proofs.Ytoodlmhnemamhaa

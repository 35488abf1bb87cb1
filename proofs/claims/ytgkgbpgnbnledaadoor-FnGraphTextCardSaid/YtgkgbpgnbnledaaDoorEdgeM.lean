/- markTS, heldTS of the statements, for T = Edge: what each call does. -/
import Derived.Test.YtgkgbpgnbnledaaDoorEdgeS
import Derived.Test.YtgkgbpgnbnledaaDoorRowM
namespace Go.Proofs.YtgkgbpgnbnledaaDoor
open Go.RowKit
def mkEdge (k : Int) (j : Nat) : EdgeR := ⟨k + 3 * (j : Int), k + 3 * (j : Int) + 1, k + 3 * (j : Int) + 1 + 1⟩
def mksEdge (k : Int) (n : Nat) : List EdgeR := (List.range n).map (mkEdge k)
theorem mksEdge_len (k : Int) (n : Nat) : (mksEdge k n).length = n := by simp [mksEdge]
theorem mksEdge_at (k : Int) (n j : Nat) (h : j < n) : atEdge (mksEdge k n) j = mkEdge k j := by
  rw [atEdge_eq _ _ (by rw [mksEdge_len]; exact h)]
  simp [mksEdge]
set_option maxHeartbeats 1600000 in
theorem markEdgeS_any (a : Option Addr) (n cap : Nat) (zs : List EdgeR) (k : Int) (lo hi : Nat) (w : World) (h : OwnS encEdge 3 50 lo hi w a n cap zs) (hn : n ≤ 1073741824) (hk0 : 0 ≤ k) (hk1 : k ≤ 2305843009213693952) :
    Calls Tryd.prog 56 #[.slice a n cap, .int .i64 k] w fun e w' => e = .returned (.int .i64 (k + 3 * n)) ∧ OwnS encEdge 3 50 lo hi w' a n cap (mksEdge k n) ∧ Win lo hi w w' := by
  have HZ := Lib.hid h.len
  have HLT := Lib.hid h.lt
  have htop := h.top
  have hsm := h.small
  have hlo := Lib.hid (fun g hg => (World.ownsRow.lt h.own g hg).1)
  have how := h.own
  rw [← mkG_zero (mkEdge k) zs] at how
  clear h
  go_enter Tryd.func56, Tryd.ntmps56
  go_wp2
  go_loopw [1, 5] (fun q i wr => ∃ j : Nat, j ≤ n ∧ i = .int .i64 j ∧ q = .int .i64 (k + 3 * (j : Int)) ∧ wr.ownsRow lo 50 3 (.slice a n cap) n ((mkG (mkEdge k) zs j).flatMap encEdge) ∧ Win lo hi w wr) (fun _ i _ => n - (intOf i).toNat)
  case atStart => exact ⟨0, Nat.zero_le _, rfl, by go_num, how, Win.refl _ _ _⟩
  case round =>
    obtain ⟨j, hj, rfl, rfl, ho, hb⟩ := hrel
    clear how
    by_cases hlt : j < n
    · obtain ⟨g, rfl⟩ := own_some ho (by omega)
      have hg1 := hlo.out g rfl
      have hg2 := HLT.out g rfl
      have hji : (j : Int) < (n : Int) := by omega
      have hset := flat_set encEdge 3 lenEdge (mkG (mkEdge k) zs j) j (by rw [mkG_len _ _ _ (by rw [HZ.out]; exact hj), HZ.out]; exact hlt) (mkEdge k j)
      rw [mkG_set _ _ _ (by rw [HZ.out]; exact hlt)] at hset
      have HS := Lib.hid hset
      clear hset
      have hf0 := ho.frozenAt (j * 3)
      have hf1 := ho.frozenAt (j * 3 + 1)
      have hf2 := ho.frozenAt (j * 3 + 2)
      have hd : ∀ i, i < 3 → ∃ d, wr.cell? ⟨g, j * 3 + i, none⟩ = some d := fun i hi => by
        rw [ho.cellAt _ (by omega)]
        exact ⟨_, List.getElem?_eq_getElem (by rw [ho.1]; omega)⟩
      obtain ⟨d0, hd0⟩ := hd 0 (by omega)
      obtain ⟨d1, hd1⟩ := hd 1 (by omega)
      obtain ⟨d2, hd2⟩ := hd 2 (by omega)
      simp only [Nat.add_zero] at hd0
      clear hd
      have s0 := (ho.stored (j * 3) (.int .i64 (k + 3 * (j : Int)))).1
      have s1 := (s0.stored (j * 3 + 1) (.int .i64 (k + 3 * (j : Int) + 1))).1
      have s2 := (s1.stored (j * 3 + 2) (.int .i64 (k + 3 * (j : Int) + 1 + 1))).1
      clear ho s0 s1
      go_wp2
      go_roundw
      case rel => exact ⟨j + 1, by omega, by go_num, by go_num, by rw [← HS.out]; exact s2, (((hb.trans (Win.set _ g (j * 3) _ hg1 hg2)).trans (Win.set _ g (j * 3 + 1) _ hg1 hg2)).trans (Win.set _ g (j * 3 + 2) _ hg1 hg2))⟩
      case measure => simp [intOf]; omega
    · obtain rfl : j = n := by omega
      rw [← HZ.out, mkG_all, HZ.out] at ho
      go_wp2
      go_ret
      exact ⟨rfl, ⟨mksEdge_len _ _, ho, HLT.out, Nat.le_trans htop hb.size, hsm⟩, hb⟩
set_option maxHeartbeats 1600000 in
theorem heldEdgeS_any (a : Option Addr) (n cap : Nat) (k : Int) (w : World) (h : Rd encEdge 3 w a n cap (mksEdge k n)) (hn : n ≤ 1073741824) (hk0 : 0 ≤ k) (hk1 : k ≤ 2305843009213693952) :
    Calls Tryd.prog 57 #[.slice a n cap, .int .i64 k] w fun e w' => e = .returned (.int .i64 (k + 3 * n)) ∧ Below w.heap.size w w' := by
  have hm := h.max
  have hle := h.le
  unfold maxLen at hm
  go_enter Tryd.func57, Tryd.ntmps57
  go_wp2
  go_loopw [1, 5] (fun q i wr => ∃ j : Nat, j ≤ n ∧ i = .int .i64 j ∧ q = .int .i64 (k + 3 * (j : Int)) ∧ Below w.heap.size w wr) (fun _ i _ => n - (intOf i).toNat)
  case atStart => exact ⟨0, Nat.zero_le _, rfl, by go_num, Below.refl _ _⟩
  case round =>
    obtain ⟨j, hj, rfl, rfl, hb⟩ := hrel
    by_cases hlt : j < n
    · obtain ⟨b, off, rfl, hbl, hc⟩ := h.rowEdge (by omega)
      obtain ⟨k0, k1, k2⟩ := hc j hlt
      have cb : ∀ o, wr.cell? ⟨b, o, none⟩ = w.cell? ⟨b, o, none⟩ := fun o => hb.cell (p := ⟨b, o, none⟩) hbl
      rw [← cb, mksEdge_at k n j hlt] at k0 k1 k2
      have hi1 : (j : Int) < (n : Int) := by omega
      unfold mkEdge at k0 k1 k2
      simp only at k0 k1 k2
      clear hc h cb
      go_wp2
      go_roundw
      case rel => exact ⟨j + 1, by omega, by go_num, by go_num, hb⟩
      case measure => simp [intOf]; omega
    · obtain rfl : j = n := by omega
      go_wp2
      go_ret
      exact ⟨rfl, hb⟩
end Go.Proofs.YtgkgbpgnbnledaaDoor

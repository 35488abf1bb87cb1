/- markTS, heldTS of the statements, for T = SEdge: what each call does. -/
import Derived.Test.YtifaekkbdmcehaaSEdgeS
import Derived.Test.YtifaekkbdmcehaaRowM
namespace Go.Proofs.Ytifaekkbdmcehaa
open Go.RowKit
def mkSEdge (k : Int) (j : Nat) : SEdgeR := ⟨k + 5 * (j : Int), k + 5 * (j : Int) + 1, k + 5 * (j : Int) + 1 + 1, k + 5 * (j : Int) + 1 + 1 + 1, k + 5 * (j : Int) + 1 + 1 + 1 + 1⟩
def mksSEdge (k : Int) (n : Nat) : List SEdgeR := (List.range n).map (mkSEdge k)
theorem mksSEdge_len (k : Int) (n : Nat) : (mksSEdge k n).length = n := by simp [mksSEdge]
theorem mksSEdge_at (k : Int) (n j : Nat) (h : j < n) : atSEdge (mksSEdge k n) j = mkSEdge k j := by
  rw [atSEdge_eq _ _ (by rw [mksSEdge_len]; exact h)]
  simp [mksSEdge]
set_option maxHeartbeats 1600000 in
theorem markSEdgeS_any (a : Option Addr) (n cap : Nat) (zs : List SEdgeR) (k : Int) (lo hi : Nat) (w : World) (h : OwnS encSEdge 5 94 lo hi w a n cap zs) (hn : n ≤ 1073741824) (hk0 : 0 ≤ k) (hk1 : k ≤ 2305843009213693952) :
    Calls Try.prog 79 #[.slice a n cap, .int .i64 k] w fun e w' => e = .returned (.int .i64 (k + 5 * n)) ∧ OwnS encSEdge 5 94 lo hi w' a n cap (mksSEdge k n) ∧ Win lo hi w w' := by
  have HZ := Lib.hid h.len
  have HLT := Lib.hid h.lt
  have htop := h.top
  have hsm := h.small
  have hlo := Lib.hid (fun g hg => (World.ownsRow.lt h.own g hg).1)
  have how := h.own
  rw [← mkG_zero (mkSEdge k) zs] at how
  clear h
  go_enter Try.func79, Try.ntmps79
  go_wp2
  go_loopw [1, 5] (fun q i wr => ∃ j : Nat, j ≤ n ∧ i = .int .i64 j ∧ q = .int .i64 (k + 5 * (j : Int)) ∧ wr.ownsRow lo 94 5 (.slice a n cap) n ((mkG (mkSEdge k) zs j).flatMap encSEdge) ∧ Win lo hi w wr) (fun _ i _ => n - (intOf i).toNat)
  case atStart => exact ⟨0, Nat.zero_le _, rfl, by go_num, how, Win.refl _ _ _⟩
  case round =>
    obtain ⟨j, hj, rfl, rfl, ho, hb⟩ := hrel
    clear how
    by_cases hlt : j < n
    · obtain ⟨g, rfl⟩ := own_some ho (by omega)
      have hg1 := hlo.out g rfl
      have hg2 := HLT.out g rfl
      have hji : (j : Int) < (n : Int) := by omega
      have hset := flat_set encSEdge 5 lenSEdge (mkG (mkSEdge k) zs j) j (by rw [mkG_len _ _ _ (by rw [HZ.out]; exact hj), HZ.out]; exact hlt) (mkSEdge k j)
      rw [mkG_set _ _ _ (by rw [HZ.out]; exact hlt)] at hset
      have HS := Lib.hid hset
      clear hset
      have hf0 := ho.frozenAt (j * 5)
      have hf1 := ho.frozenAt (j * 5 + 1)
      have hf2 := ho.frozenAt (j * 5 + 2)
      have hf3 := ho.frozenAt (j * 5 + 3)
      have hf4 := ho.frozenAt (j * 5 + 4)
      have hd : ∀ i, i < 5 → ∃ d, wr.cell? ⟨g, j * 5 + i, none⟩ = some d := fun i hi => by
        rw [ho.cellAt _ (by omega)]
        exact ⟨_, List.getElem?_eq_getElem (by rw [ho.1]; omega)⟩
      obtain ⟨d0, hd0⟩ := hd 0 (by omega)
      obtain ⟨d1, hd1⟩ := hd 1 (by omega)
      obtain ⟨d2, hd2⟩ := hd 2 (by omega)
      obtain ⟨d3, hd3⟩ := hd 3 (by omega)
      obtain ⟨d4, hd4⟩ := hd 4 (by omega)
      simp only [Nat.add_zero] at hd0
      clear hd
      have s0 := (ho.stored (j * 5) (.int .i64 (k + 5 * (j : Int)))).1
      have s1 := (s0.stored (j * 5 + 1) (.int .i64 (k + 5 * (j : Int) + 1))).1
      have s2 := (s1.stored (j * 5 + 2) (.int .i64 (k + 5 * (j : Int) + 1 + 1))).1
      have s3 := (s2.stored (j * 5 + 3) (.int .i64 (k + 5 * (j : Int) + 1 + 1 + 1))).1
      have s4 := (s3.stored (j * 5 + 4) (.int .i64 (k + 5 * (j : Int) + 1 + 1 + 1 + 1))).1
      clear ho s0 s1 s2 s3
      go_wp2
      go_roundw
      case rel => exact ⟨j + 1, by omega, by go_num, by go_num, by rw [← HS.out]; exact s4, (((((hb.trans (Win.set _ g (j * 5) _ hg1 hg2)).trans (Win.set _ g (j * 5 + 1) _ hg1 hg2)).trans (Win.set _ g (j * 5 + 2) _ hg1 hg2)).trans (Win.set _ g (j * 5 + 3) _ hg1 hg2)).trans (Win.set _ g (j * 5 + 4) _ hg1 hg2))⟩
      case measure => simp [intOf]; omega
    · obtain rfl : j = n := by omega
      rw [← HZ.out, mkG_all, HZ.out] at ho
      go_wp2
      go_ret
      exact ⟨rfl, ⟨mksSEdge_len _ _, ho, HLT.out, Nat.le_trans htop hb.size, hsm⟩, hb⟩
end Go.Proofs.Ytifaekkbdmcehaa

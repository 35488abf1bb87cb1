/- The kind Frame. -/
import Derived.Test.YtkgalkaafocnjaaFrameU
import Derived.Test.YtkgalkaafocnjaaByteM
namespace Go.Proofs.Ytkgalkaafocnjaa
open Go.RowKit
def rdFrame (w : World) (y : FrameR) : Prop := Rd (encI .u8) 1 w y.dataA y.dataN y.dataC y.data
theorem rdFrame_below {w w' : World} {y : FrameR} (h : rdFrame w y) {B : Nat} (hb : Below B w w') (hB : w.heap.size ≤ B) : rdFrame w' y := Rd.below h hb hB
theorem OwnFrame.rd {lo hi : Nat} {w : World} {y : FrameR} (h : OwnFrame lo hi w y) : rdFrame w y := h.row.rd (show ∀ x, (encI .u8 x).length = 1 from fun _ => rfl)

def cntFrame (y : FrameR) : Nat := y.dataN
theorem cntFrame_le {y : FrameR} {b : Nat} (h : bulkFrame y ≤ b) : cntFrame y ≤ 1000 * b := by unfold bulkFrame at h; unfold cntFrame; omega
theorem cntFrame_own {lo hi : Nat} {w : World} {y : FrameR} {b : Nat} (_h : OwnFrame lo hi w y) (hb : bulkFrame y ≤ b) : cntFrame y ≤ 1000 * b := cntFrame_le hb
def HeldFrame (k : Int) (w : World) (y : FrameR) : Prop := y.dataN ≤ 1048576 ∧ Rd (encI .u8) 1 w y.dataA y.dataN y.dataC (mks by8 k y.dataN)
theorem HeldFrame.below {k : Int} {w w' : World} {y : FrameR} (h : HeldFrame k w y) (hb : Below w.heap.size w w') : HeldFrame k w' y := ⟨h.1, h.2.below hb (Nat.le_refl _)⟩
theorem goodFrame_rd {w : World} {y : FrameR} (g : goodFrame w y) : rdFrame w y := g.2.1
theorem markFrame_k (y : FrameR) (k : Int) (lo hi : Nat) (w : World) (h : OwnFrame lo hi w y) (hn : bulkFrame y ≤ 1048576) (hk0 : 0 ≤ k) (hk1 : k ≤ 2305843009213693952) :
    Calls Try.prog 36 #[.agg #[.int .i64 y.kind, .slice y.dataA y.dataN y.dataC], .int .i64 k] w fun e w' => e = .returned (.int .i64 (k + cntFrame y)) ∧ HeldFrame k w' y ∧ Win lo hi w w' := by
  have hn' : y.dataN ≤ 1048576 := by unfold bulkFrame at hn; omega
  refine (markFrame_u y k lo hi w h hn' hk0 hk1).mono ?_
  rintro e w' ⟨rfl, ho, hw⟩
  exact ⟨ret_i (by unfold cntFrame; omega), ⟨hn', ho.rd (show ∀ x, (encI .u8 x).length = 1 from fun _ => rfl)⟩, hw⟩
theorem heldFrame_k (y : FrameR) (k : Int) (w : World) (h : HeldFrame k w y) (hk0 : 0 ≤ k) (hk1 : k ≤ 2305843009213693952) :
    Calls Try.prog 39 #[.agg #[.int .i64 y.kind, .slice y.dataA y.dataN y.dataC], .int .i64 k] w fun e w' => e = .returned (.int .i64 (k + cntFrame y)) ∧ Below w.heap.size w w' := by
  have hn' := h.1
  refine (heldFrame_u y k w h.2 hn' hk0 hk1).mono ?_
  rintro e w' ⟨rfl, hb⟩
  exact ⟨ret_i (by unfold cntFrame; omega), hb⟩
end Go.Proofs.Ytkgalkaafocnjaa

/- The kind FsOp. -/
import Derived.Test.YtoodlmhnemamhaaFsOpU
import Derived.Test.YtoodlmhnemamhaaByteM
namespace Go.Proofs.Ytoodlmhnemamhaa
open Go.RowKit
def rdFsOp (w : World) (y : FsOpR) : Prop := Rd (encI .u8) 1 w y.dataA y.dataN y.dataC y.data
theorem rdFsOp_below {w w' : World} {y : FsOpR} (h : rdFsOp w y) {B : Nat} (hb : Below B w w') (hB : w.heap.size ≤ B) : rdFsOp w' y := Rd.below h hb hB
theorem OwnFsOp.rd {lo hi : Nat} {w : World} {y : FsOpR} (h : OwnFsOp lo hi w y) : rdFsOp w y := h.row.rd (show ∀ x, (encI .u8 x).length = 1 from fun _ => rfl)

def cntFsOp (y : FsOpR) : Nat := y.dataN
theorem cntFsOp_le {y : FsOpR} {b : Nat} (h : bulkFsOp y ≤ b) : cntFsOp y ≤ 1000 * b := by unfold bulkFsOp at h; unfold cntFsOp; omega
theorem cntFsOp_own {lo hi : Nat} {w : World} {y : FsOpR} {b : Nat} (_h : OwnFsOp lo hi w y) (hb : bulkFsOp y ≤ b) : cntFsOp y ≤ 1000 * b := cntFsOp_le hb
def HeldFsOp (k : Int) (w : World) (y : FsOpR) : Prop := y.dataN ≤ 1048576 ∧ Rd (encI .u8) 1 w y.dataA y.dataN y.dataC (mks by8 k y.dataN)
theorem HeldFsOp.below {k : Int} {w w' : World} {y : FsOpR} (h : HeldFsOp k w y) (hb : Below w.heap.size w w') : HeldFsOp k w' y := ⟨h.1, h.2.below hb (Nat.le_refl _)⟩
theorem goodFsOp_rd {w : World} {y : FsOpR} (g : goodFsOp w y) : rdFsOp w y := g.2.2.2.1
theorem markFsOp_k (y : FsOpR) (k : Int) (lo hi : Nat) (w : World) (h : OwnFsOp lo hi w y) (hn : bulkFsOp y ≤ 1048576) (hk0 : 0 ≤ k) (hk1 : k ≤ 2305843009213693952) :
    Calls Try.prog 35 #[.agg #[.int .i64 y.kind, .string y.name, .string y.dst, .slice y.dataA y.dataN y.dataC], .int .i64 k] w fun e w' => e = .returned (.int .i64 (k + cntFsOp y)) ∧ HeldFsOp k w' y ∧ Win lo hi w w' := by
  have hn' : y.dataN ≤ 1048576 := by unfold bulkFsOp at hn; omega
  refine (markFsOp_u y k lo hi w h hn' hk0 hk1).mono ?_
  rintro e w' ⟨rfl, ho, hw⟩
  exact ⟨ret_i (by unfold cntFsOp; omega), ⟨hn', ho.rd (show ∀ x, (encI .u8 x).length = 1 from fun _ => rfl)⟩, hw⟩
end Go.Proofs.Ytoodlmhnemamhaa

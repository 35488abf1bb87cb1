/- The kind File. -/
import Derived.Test.YtoodlmhnemamhaaFileU
import Derived.Test.YtoodlmhnemamhaaByteM
namespace Go.Proofs.Ytoodlmhnemamhaa
open Go.RowKit
def rdFile (w : World) (y : FileR) : Prop := Rd (encI .u8) 1 w y.dataA y.dataN y.dataC y.data
theorem rdFile_below {w w' : World} {y : FileR} (h : rdFile w y) {B : Nat} (hb : Below B w w') (hB : w.heap.size ≤ B) : rdFile w' y := Rd.below h hb hB
theorem OwnFile.rd {lo hi : Nat} {w : World} {y : FileR} (h : OwnFile lo hi w y) : rdFile w y := h.row.rd (show ∀ x, (encI .u8 x).length = 1 from fun _ => rfl)

def cntFile (y : FileR) : Nat := y.dataN
theorem cntFile_le {y : FileR} {b : Nat} (h : bulkFile y ≤ b) : cntFile y ≤ 1000 * b := by unfold bulkFile at h; unfold cntFile; omega
theorem cntFile_own {lo hi : Nat} {w : World} {y : FileR} {b : Nat} (_h : OwnFile lo hi w y) (hb : bulkFile y ≤ b) : cntFile y ≤ 1000 * b := cntFile_le hb
def HeldFile (k : Int) (w : World) (y : FileR) : Prop := y.dataN ≤ 1048576 ∧ Rd (encI .u8) 1 w y.dataA y.dataN y.dataC (mks by8 k y.dataN)
theorem HeldFile.below {k : Int} {w w' : World} {y : FileR} (h : HeldFile k w y) (hb : Below w.heap.size w w') : HeldFile k w' y := ⟨h.1, h.2.below hb (Nat.le_refl _)⟩
theorem goodFile_rd {w : World} {y : FileR} (g : goodFile w y) : rdFile w y := g.2.1
end Go.Proofs.Ytoodlmhnemamhaa

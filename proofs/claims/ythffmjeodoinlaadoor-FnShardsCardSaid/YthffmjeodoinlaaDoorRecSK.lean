/- The kind RecS: rows of RecR. -/
import Derived.Test.YthffmjeodoinlaaDoorRow
import Derived.Test.YthffmjeodoinlaaDoorRecS
namespace Go.Proofs.YthffmjeodoinlaaDoor
open Go.RowKit
def datRecS (y : Row RecR) : List RecR := y.l
def rdRecS (w : World) (y : Row RecR) : Prop := Rd encRec 3 w y.a y.n y.c y.l
theorem rdRecS_below {w w' : World} {y : Row RecR} (h : rdRecS w y) {B : Nat} (hb : Below B w w') (hB : w.heap.size ≤ B) : rdRecS w' y := Rd.below h hb hB
structure OwnRecS (lo hi : Nat) (w : World) (y : Row RecR) : Prop where
  row : OwnS encRec 3 54 lo hi w y.a y.n y.c y.l
theorem OwnRecS.below {lo hi : Nat} {w w' : World} {y : Row RecR} (h : OwnRecS lo hi w y) (hb : Below w.heap.size w w') : OwnRecS lo hi w' y := ⟨h.row.below hb⟩
theorem OwnRecS.win {lo hi lo' hi' : Nat} {w w' : World} {y : Row RecR} (h : OwnRecS lo hi w y) (hw : Win lo' hi' w w') (hd : hi' ≤ lo ∨ hi ≤ lo') : OwnRecS lo hi w' y := ⟨h.row.win hw hd⟩
theorem OwnRecS.lo_le {lo hi lo' : Nat} {w : World} {y : Row RecR} (h : OwnRecS lo hi w y) (hl : lo' ≤ lo) : OwnRecS lo' hi w y := ⟨h.row.lo_le hl⟩
theorem OwnRecS.rd {lo hi : Nat} {w : World} {y : Row RecR} (h : OwnRecS lo hi w y) : rdRecS w y := h.row.rd lenRec
def bulkRecS (y : Row RecR) : Nat := y.n
def cntRecS (y : Row RecR) : Nat := 3 * y.n
theorem cntRecS_le {y : Row RecR} {b : Nat} (h : bulkRecS y ≤ b) : cntRecS y ≤ 1000 * b := by unfold bulkRecS at h; unfold cntRecS; omega
theorem cntRecS_own {lo hi : Nat} {w : World} {y : Row RecR} {b : Nat} (_h : OwnRecS lo hi w y) (hb : bulkRecS y ≤ b) : cntRecS y ≤ 1000 * b := cntRecS_le hb
end Go.Proofs.YthffmjeodoinlaaDoor

/- The kind RecS: rows of RecR. -/
import Derived.Test.YthffmjeodoinlaaRow
import Derived.Test.YthffmjeodoinlaaRecS
import Derived.Test.YthffmjeodoinlaaRecM
namespace Go.Proofs.Ythffmjeodoinlaa
open Go.RowKit
def datRecS (y : Row RecR) : List RecR := y.l
def rdRecS (w : World) (y : Row RecR) : Prop := Rd encRec 3 w y.a y.n y.c y.l
theorem rdRecS_below {w w' : World} {y : Row RecR} (h : rdRecS w y) {B : Nat} (hb : Below B w w') (hB : w.heap.size ≤ B) : rdRecS w' y := Rd.below h hb hB
structure OwnRecS (lo hi : Nat) (w : World) (y : Row RecR) : Prop where
  row : OwnS encRec 3 41 lo hi w y.a y.n y.c y.l
theorem OwnRecS.below {lo hi : Nat} {w w' : World} {y : Row RecR} (h : OwnRecS lo hi w y) (hb : Below w.heap.size w w') : OwnRecS lo hi w' y := ⟨h.row.below hb⟩
theorem OwnRecS.win {lo hi lo' hi' : Nat} {w w' : World} {y : Row RecR} (h : OwnRecS lo hi w y) (hw : Win lo' hi' w w') (hd : hi' ≤ lo ∨ hi ≤ lo') : OwnRecS lo hi w' y := ⟨h.row.win hw hd⟩
theorem OwnRecS.lo_le {lo hi lo' : Nat} {w : World} {y : Row RecR} (h : OwnRecS lo hi w y) (hl : lo' ≤ lo) : OwnRecS lo' hi w y := ⟨h.row.lo_le hl⟩
theorem OwnRecS.rd {lo hi : Nat} {w : World} {y : Row RecR} (h : OwnRecS lo hi w y) : rdRecS w y := h.row.rd lenRec
def bulkRecS (y : Row RecR) : Nat := y.n
def cntRecS (y : Row RecR) : Nat := 3 * y.n
theorem cntRecS_le {y : Row RecR} {b : Nat} (h : bulkRecS y ≤ b) : cntRecS y ≤ 1000 * b := by unfold bulkRecS at h; unfold cntRecS; omega
theorem cntRecS_own {lo hi : Nat} {w : World} {y : Row RecR} {b : Nat} (_h : OwnRecS lo hi w y) (hb : bulkRecS y ≤ b) : cntRecS y ≤ 1000 * b := cntRecS_le hb
def HeldRecS (k : Int) (w : World) (y : Row RecR) : Prop := y.n ≤ 1048576 ∧ Rd encRec 3 w y.a y.n y.c (mksRec k y.n)
theorem HeldRecS.below {k : Int} {w w' : World} {y : Row RecR} (h : HeldRecS k w y) (hb : Below w.heap.size w w') : HeldRecS k w' y := ⟨h.1, h.2.below hb (Nat.le_refl _)⟩
theorem szRecS_k (y : Row RecR) (left : Int) (w : World) (g : rdRecS w y) (h1 : 0 ≤ left) (h2 : left ≤ 1048576) :
    Calls Try.prog 8 #[.slice y.a y.n y.c, .int .i64 left] w fun e w' => e = .returned (.int .i64 (leftB left (bulkRecS y))) ∧ Below w.heap.size w w' :=
  szRecS_any _ _ _ _ _ h1 h2 (by have := g.le; have := g.max; unfold maxLen at *; omega)
theorem toRecS_k (y : Row RecR) (w : World) (g : rdRecS w y) (hn : bulkRecS y ≤ 1048576) :
    Calls Try.prog 10 #[.slice y.a y.n y.c] w fun e w' => ∃ y' : Row RecR, e = .returned (.slice y'.a y'.n y'.c) ∧ datRecS y' = datRecS y ∧ OwnRecS w.heap.size w'.heap.size w' y' ∧ bulkRecS y' = bulkRecS y ∧ Below w.heap.size w w' :=
  (toRecS_any y.a y.n y.c y.l w g hn).mono fun _ _ ⟨g, h1, h2, h3⟩ => ⟨⟨some ⟨g, 0, none⟩, y.n, y.n, y.l⟩, h1, rfl, ⟨h2⟩, rfl, h3⟩
theorem eqRecS_k (x y : Row RecR) (D D' : List RecR) (hD : datRecS x = D) (hD' : datRecS y = D') (w : World) (h : rdRecS w x) (h' : rdRecS w y) :
    Calls Try.prog 12 #[.slice x.a x.n x.c, .slice y.a y.n y.c] w fun e w' => e = .returned (.bool (decide (D = D'))) ∧ Below w.heap.size w w' := by
  subst hD
  subst hD'
  exact eqRecS_any _ _ _ _ _ _ _ _ w h h'
theorem markRecS_k (y : Row RecR) (k : Int) (lo hi : Nat) (w : World) (h : OwnRecS lo hi w y) (hn : bulkRecS y ≤ 1048576) (hk0 : 0 ≤ k) (hk1 : k ≤ 2305843009213693952) :
    Calls Try.prog 13 #[.slice y.a y.n y.c, .int .i64 k] w fun e w' => e = .returned (.int .i64 (k + cntRecS y)) ∧ HeldRecS k w' y ∧ Win lo hi w w' := by
  have hn' : y.n ≤ 1048576 := hn
  refine (markRecS_any _ _ _ _ _ _ _ _ h.row (by omega) hk0 hk1).mono ?_
  rintro e w' ⟨rfl, ho, hw⟩
  exact ⟨ret_i (by unfold cntRecS; omega), ⟨hn', ho.rd lenRec⟩, hw⟩
theorem heldRecS_k (y : Row RecR) (k : Int) (w : World) (h : HeldRecS k w y) (hk0 : 0 ≤ k) (hk1 : k ≤ 2305843009213693952) :
    Calls Try.prog 14 #[.slice y.a y.n y.c, .int .i64 k] w fun e w' => e = .returned (.int .i64 (k + cntRecS y)) ∧ Below w.heap.size w w' := by
  have hn' := h.1
  refine (heldRecS_any _ _ _ _ _ h.2 (by omega) hk0 hk1).mono ?_
  rintro e w' ⟨rfl, hb⟩
  exact ⟨ret_i (by unfold cntRecS; omega), hb⟩
end Go.Proofs.Ythffmjeodoinlaa

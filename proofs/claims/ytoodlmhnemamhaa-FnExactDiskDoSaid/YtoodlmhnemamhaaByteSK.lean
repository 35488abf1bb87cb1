/- The kind ByteS: rows of Int. -/
import Derived.Test.YtoodlmhnemamhaaRow
import Derived.Test.YtoodlmhnemamhaaByteS
import Derived.Test.YtoodlmhnemamhaaFlatS
import Derived.Test.YtoodlmhnemamhaaSzB
import Derived.Test.YtoodlmhnemamhaaByteM
namespace Go.Proofs.Ytoodlmhnemamhaa
open Go.RowKit
def datByteS (y : Row Int) : List Int := y.l
def rdByteS (w : World) (y : Row Int) : Prop := Rd (encI .u8) 1 w y.a y.n y.c y.l
theorem rdByteS_below {w w' : World} {y : Row Int} (h : rdByteS w y) {B : Nat} (hb : Below B w w') (hB : w.heap.size ≤ B) : rdByteS w' y := Rd.below h hb hB
structure OwnByteS (lo hi : Nat) (w : World) (y : Row Int) : Prop where
  row : OwnS (encI .u8) 1 5 lo hi w y.a y.n y.c y.l
theorem OwnByteS.below {lo hi : Nat} {w w' : World} {y : Row Int} (h : OwnByteS lo hi w y) (hb : Below w.heap.size w w') : OwnByteS lo hi w' y := ⟨h.row.below hb⟩
theorem OwnByteS.win {lo hi lo' hi' : Nat} {w w' : World} {y : Row Int} (h : OwnByteS lo hi w y) (hw : Win lo' hi' w w') (hd : hi' ≤ lo ∨ hi ≤ lo') : OwnByteS lo hi w' y := ⟨h.row.win hw hd⟩
theorem OwnByteS.lo_le {lo hi lo' : Nat} {w : World} {y : Row Int} (h : OwnByteS lo hi w y) (hl : lo' ≤ lo) : OwnByteS lo' hi w y := ⟨h.row.lo_le hl⟩
theorem OwnByteS.rd {lo hi : Nat} {w : World} {y : Row Int} (h : OwnByteS lo hi w y) : rdByteS w y := h.row.rd (show ∀ x, (encI .u8 x).length = 1 from fun _ => rfl)
def bulkByteS (y : Row Int) : Nat := y.n
def cntByteS (y : Row Int) : Nat := y.n
theorem cntByteS_le {y : Row Int} {b : Nat} (h : bulkByteS y ≤ b) : cntByteS y ≤ 1000 * b := by unfold bulkByteS at h; unfold cntByteS; omega
theorem cntByteS_own {lo hi : Nat} {w : World} {y : Row Int} {b : Nat} (_h : OwnByteS lo hi w y) (hb : bulkByteS y ≤ b) : cntByteS y ≤ 1000 * b := cntByteS_le hb
def HeldByteS (k : Int) (w : World) (y : Row Int) : Prop := y.n ≤ 1048576 ∧ Rd (encI .u8) 1 w y.a y.n y.c (mks by8 k y.n)
theorem HeldByteS.below {k : Int} {w w' : World} {y : Row Int} (h : HeldByteS k w y) (hb : Below w.heap.size w w') : HeldByteS k w' y := ⟨h.1, h.2.below hb (Nat.le_refl _)⟩
theorem szByteS_k (y : Row Int) (left : Int) (w : World) (g : rdByteS w y) (h1 : 0 ≤ left) (h2 : left ≤ 1048576) :
    Calls Try.prog 36 #[.slice y.a y.n y.c, .int .i64 left] w fun e w' => e = .returned (.int .i64 (leftB left (bulkByteS y))) ∧ Below w.heap.size w w' :=
  szByteS_any _ _ _ _ _ h1 h2 (by have := g.le; have := g.max; unfold maxLen at *; omega)
theorem toByteS_k (y : Row Int) (w : World) (g : rdByteS w y) (hn : bulkByteS y ≤ 1048576) :
    Calls Try.prog 38 #[.slice y.a y.n y.c] w fun e w' => ∃ y' : Row Int, e = .returned (.slice y'.a y'.n y'.c) ∧ datByteS y' = datByteS y ∧ OwnByteS w.heap.size w'.heap.size w' y' ∧ bulkByteS y' = bulkByteS y ∧ Below w.heap.size w w' :=
  (toByteS_s y.a y.n y.c y.l w g hn).mono fun _ _ ⟨g, h1, h2, h3⟩ => ⟨⟨some ⟨g, 0, none⟩, y.n, y.n, y.l⟩, h1, rfl, ⟨h2⟩, rfl, h3⟩
theorem eqByteS_k (x y : Row Int) (D D' : List Int) (hD : datByteS x = D) (hD' : datByteS y = D') (w : World) (h : rdByteS w x) (h' : rdByteS w y) :
    Calls Try.prog 26 #[.slice x.a x.n x.c, .slice y.a y.n y.c] w fun e w' => e = .returned (.bool (decide (D = D'))) ∧ Below w.heap.size w w' := by
  subst hD
  subst hD'
  exact eqByteS_any _ _ _ _ _ _ _ _ w h h'
theorem markByteS_k (y : Row Int) (k : Int) (lo hi : Nat) (w : World) (h : OwnByteS lo hi w y) (hn : bulkByteS y ≤ 1048576) (hk0 : 0 ≤ k) (hk1 : k ≤ 2305843009213693952) :
    Calls Try.prog 27 #[.slice y.a y.n y.c, .int .i64 k] w fun e w' => e = .returned (.int .i64 (k + cntByteS y)) ∧ HeldByteS k w' y ∧ Win lo hi w w' := by
  have hn' : y.n ≤ 1048576 := hn
  refine (markByteS_s _ _ _ _ _ _ _ _ h.row (by omega) hk0 hk1).mono ?_
  rintro e w' ⟨rfl, ho, hw⟩
  exact ⟨ret_i (by unfold cntByteS; omega), ⟨hn', ho.rd (show ∀ x, (encI .u8 x).length = 1 from fun _ => rfl)⟩, hw⟩
theorem heldByteS_k (y : Row Int) (k : Int) (w : World) (h : HeldByteS k w y) (hk0 : 0 ≤ k) (hk1 : k ≤ 2305843009213693952) :
    Calls Try.prog 28 #[.slice y.a y.n y.c, .int .i64 k] w fun e w' => e = .returned (.int .i64 (k + cntByteS y)) ∧ Below w.heap.size w w' := by
  have hn' := h.1
  refine (heldByteS_s _ _ _ _ _ h.2 (by omega) hk0 hk1).mono ?_
  rintro e w' ⟨rfl, hb⟩
  exact ⟨ret_i (by unfold cntByteS; omega), hb⟩
end Go.Proofs.Ytoodlmhnemamhaa

/- The kind IntS: rows of Int. -/
import Derived.Test.YtkgalkaafocnjaaRow
import Derived.Test.YtkgalkaafocnjaaIntS
import Derived.Test.YtkgalkaafocnjaaFlatS
import Derived.Test.YtkgalkaafocnjaaIntM
namespace Go.Proofs.Ytkgalkaafocnjaa
open Go.RowKit
def datIntS (y : Row Int) : List Int := y.l
def rdIntS (w : World) (y : Row Int) : Prop := Rd (encI .i64) 1 w y.a y.n y.c y.l
theorem rdIntS_below {w w' : World} {y : Row Int} (h : rdIntS w y) {B : Nat} (hb : Below B w w') (hB : w.heap.size ≤ B) : rdIntS w' y := Rd.below h hb hB
structure OwnIntS (lo hi : Nat) (w : World) (y : Row Int) : Prop where
  row : OwnS (encI .i64) 1 3 lo hi w y.a y.n y.c y.l
theorem OwnIntS.below {lo hi : Nat} {w w' : World} {y : Row Int} (h : OwnIntS lo hi w y) (hb : Below w.heap.size w w') : OwnIntS lo hi w' y := ⟨h.row.below hb⟩
theorem OwnIntS.win {lo hi lo' hi' : Nat} {w w' : World} {y : Row Int} (h : OwnIntS lo hi w y) (hw : Win lo' hi' w w') (hd : hi' ≤ lo ∨ hi ≤ lo') : OwnIntS lo hi w' y := ⟨h.row.win hw hd⟩
theorem OwnIntS.lo_le {lo hi lo' : Nat} {w : World} {y : Row Int} (h : OwnIntS lo hi w y) (hl : lo' ≤ lo) : OwnIntS lo' hi w y := ⟨h.row.lo_le hl⟩
theorem OwnIntS.rd {lo hi : Nat} {w : World} {y : Row Int} (h : OwnIntS lo hi w y) : rdIntS w y := h.row.rd (fun _ => rfl)
def bulkIntS (y : Row Int) : Nat := y.n
def cntIntS (y : Row Int) : Nat := y.n
theorem cntIntS_le {y : Row Int} {b : Nat} (h : bulkIntS y ≤ b) : cntIntS y ≤ 1000 * b := by unfold bulkIntS at h; unfold cntIntS; omega
theorem cntIntS_own {lo hi : Nat} {w : World} {y : Row Int} {b : Nat} (_h : OwnIntS lo hi w y) (hb : bulkIntS y ≤ b) : cntIntS y ≤ 1000 * b := cntIntS_le hb
def HeldIntS (k : Int) (w : World) (y : Row Int) : Prop := y.n ≤ 1048576 ∧ Rd (encI .i64) 1 w y.a y.n y.c (mks asI k y.n)
theorem HeldIntS.below {k : Int} {w w' : World} {y : Row Int} (h : HeldIntS k w y) (hb : Below w.heap.size w w') : HeldIntS k w' y := ⟨h.1, h.2.below hb (Nat.le_refl _)⟩
theorem toIntS_k (y : Row Int) (w : World) (g : rdIntS w y) (hn : bulkIntS y ≤ 1048576) :
    Calls Try.prog 24 #[.slice y.a y.n y.c] w fun e w' => ∃ y' : Row Int, e = .returned (.slice y'.a y'.n y'.c) ∧ datIntS y' = datIntS y ∧ OwnIntS w.heap.size w'.heap.size w' y' ∧ bulkIntS y' = bulkIntS y ∧ Below w.heap.size w w' :=
  (toIntS_s y.a y.n y.c y.l w g hn).mono fun _ _ ⟨g, h1, h2, h3⟩ => ⟨⟨some ⟨g, 0, none⟩, y.n, y.n, y.l⟩, h1, rfl, ⟨h2⟩, rfl, h3⟩
theorem eqIntS_k (x y : Row Int) (D D' : List Int) (hD : datIntS x = D) (hD' : datIntS y = D') (w : World) (h : rdIntS w x) (h' : rdIntS w y) :
    Calls Try.prog 26 #[.slice x.a x.n x.c, .slice y.a y.n y.c] w fun e w' => e = .returned (.bool (decide (D = D'))) ∧ Below w.heap.size w w' := by
  subst hD
  subst hD'
  exact eqIntS_any _ _ _ _ _ _ _ _ w h h'
theorem markIntS_k (y : Row Int) (k : Int) (lo hi : Nat) (w : World) (h : OwnIntS lo hi w y) (hn : bulkIntS y ≤ 1048576) (hk0 : 0 ≤ k) (hk1 : k ≤ 2305843009213693952) :
    Calls Try.prog 27 #[.slice y.a y.n y.c, .int .i64 k] w fun e w' => e = .returned (.int .i64 (k + cntIntS y)) ∧ HeldIntS k w' y ∧ Win lo hi w w' := by
  have hn' : y.n ≤ 1048576 := hn
  refine (markIntS_s _ _ _ _ _ _ _ _ h.row (by omega) hk0 hk1).mono ?_
  rintro e w' ⟨rfl, ho, hw⟩
  exact ⟨ret_i (by unfold cntIntS; omega), ⟨hn', ho.rd (fun _ => rfl)⟩, hw⟩
theorem heldIntS_k (y : Row Int) (k : Int) (w : World) (h : HeldIntS k w y) (hk0 : 0 ≤ k) (hk1 : k ≤ 2305843009213693952) :
    Calls Try.prog 30 #[.slice y.a y.n y.c, .int .i64 k] w fun e w' => e = .returned (.int .i64 (k + cntIntS y)) ∧ Below w.heap.size w w' := by
  have hn' := h.1
  refine (heldIntS_s _ _ _ _ _ h.2 (by omega) hk0 hk1).mono ?_
  rintro e w' ⟨rfl, hb⟩
  exact ⟨ret_i (by unfold cntIntS; omega), hb⟩
end Go.Proofs.Ytkgalkaafocnjaa

/- Frame in the form that the laws' walks use: toFrame, eqFrame, szFrame, markFrame, heldFrame over a frame of the call's own. -/
import Derived.Test.YtkgalkaafocnjaaFrameT
import Derived.Test.YtkgalkaafocnjaaByteM
namespace Go.Proofs.Ytkgalkaafocnjaa
open Go.RowKit
def datFrame (y : FrameR) : Int × List Int := (y.kind, y.data)
def okFrame (y : FrameR) : Prop := In64 y.kind ∧ ∀ z ∈ y.data, In8 z
structure OwnFrame (lo hi : Nat) (w : World) (y : FrameR) : Prop where
  data : OwnI .u8 5 lo hi w y.dataA y.dataN y.dataC y.data
  top : hi ≤ w.heap.size
theorem OwnFrame.below {lo hi : Nat} {w w' : World} {y : FrameR} (h : OwnFrame lo hi w y) (hb : Below w.heap.size w w') : OwnFrame lo hi w' y := ⟨h.data.below hb, Nat.le_trans h.top hb.size⟩
theorem OwnFrame.win {lo hi lo' hi' : Nat} {w w' : World} {y : FrameR} (h : OwnFrame lo hi w y) (hw : Win lo' hi' w w') (hd : hi' ≤ lo ∨ hi ≤ lo') : OwnFrame lo hi w' y := ⟨h.data.win hw hd, Nat.le_trans h.top hw.size⟩
theorem OwnFrame.good {lo hi : Nat} {w : World} {y : FrameR} (h : OwnFrame lo hi w y) (g : okFrame y) : goodFrame w y := ⟨g.1, h.data.rd, g.2⟩
theorem goodFrame_ok {w : World} {y : FrameR} (g : goodFrame w y) : okFrame y := ⟨g.1, g.2.2⟩
theorem okFrame_dat {y y' : FrameR} (g : okFrame y) (h : datFrame y' = datFrame y) : okFrame y' := by
  unfold datFrame at h
  simp only [Prod.mk.injEq] at h
  unfold okFrame
  rw [h.1, h.2]
  exact g
/-- How much of the budget it takes. -/
def bulkFrame (y : FrameR) : Nat := y.dataN
theorem szFrame_u (y : FrameR) (left : Int) (w : World) (g : goodFrame w y) (h1 : 0 ≤ left) (h2 : left ≤ 1048576) :
    Calls Try.prog 31 #[.agg #[.int .i64 y.kind, .slice y.dataA y.dataN y.dataC], .int .i64 left] w fun e w' => e = .returned (.int .i64 (leftB left (bulkFrame y))) ∧ Below w.heap.size w w' := szFrame_any y left w g h1 h2
theorem toFrame_u (y : FrameR) (w : World) (g : goodFrame w y) (hn : bulkFrame y ≤ 1048576) :
    Calls Try.prog 33 #[.agg #[.int .i64 y.kind, .slice y.dataA y.dataN y.dataC]] w fun e w' => ∃ y' : FrameR, e = .returned (.agg #[.int .i64 y'.kind, .slice y'.dataA y'.dataN y'.dataC]) ∧ datFrame y' = datFrame y ∧ OwnFrame w.heap.size w'.heap.size w' y' ∧ bulkFrame y' = bulkFrame y ∧ Below w.heap.size w w' := by
  refine (toFrame_any y w g hn).mono ?_
  rintro e w' ⟨q, rfl, ho, hb⟩
  exact ⟨⟨y.kind, some ⟨q, 0, none⟩, y.dataN, y.dataN, y.data⟩, rfl, rfl, ⟨ho, Nat.le_refl _⟩, rfl, hb⟩
theorem eqFrame_u (x y : FrameR) (D D' : Int × List Int) (hD : datFrame x = D) (hD' : datFrame y = D') (w : World) (h : goodFrame w x) (h' : goodFrame w y) :
    Calls Try.prog 35 #[.agg #[.int .i64 x.kind, .slice x.dataA x.dataN x.dataC], .agg #[.int .i64 y.kind, .slice y.dataA y.dataN y.dataC]] w fun e w' => e = .returned (.bool (decide (D = D'))) ∧ Below w.heap.size w w' := by
  refine (eqFrame_any x.kind y.kind x.dataA y.dataA x.dataN x.dataC y.dataN y.dataC x.data y.data w h.2.1 h'.2.1).mono ?_
  rintro e w' ⟨rfl, hb⟩
  refine ⟨ret_b ?_, hb⟩
  rw [← hD, ← hD']
  unfold datFrame
  rw [Bool.eq_iff_iff]
  simp
theorem markFrame_u (y : FrameR) (k : Int) (lo hi : Nat) (w : World) (h : OwnFrame lo hi w y) (hk0 : 0 ≤ k) (hk1 : k ≤ 2305843009213693952) :
    Calls Try.prog 36 #[.agg #[.int .i64 y.kind, .slice y.dataA y.dataN y.dataC], .int .i64 k] w fun e w' => ∃ y' : FrameR, e = .returned (.int .i64 (k + bulkFrame y)) ∧ OwnFrame lo hi w' y' ∧ Win lo hi w w' := by
  have hb0 := (Below.refl w.heap.size w).alloc (Nat.le_refl _) (.cells #[.int .i64 y.kind, .slice y.dataA y.dataN y.dataC] 43)
  have hs := h.data.small
  go_enter Try.func36, Try.ntmps36
  go_wp2_with fail
  refine (markByteS_any _ _ _ _ _ _ _ _ (h.data.below hb0) hk0 hk1).mono ?_
  rintro e w1 ⟨rfl, ho, hw⟩
  go_wp2
  go_ret
  exact ⟨⟨y.kind, y.dataA, y.dataN, y.dataC, mks by8 k y.dataN⟩, rfl, ⟨ho, ho.top⟩, (Win.of_below hb0).trans hw⟩
end Go.Proofs.Ytkgalkaafocnjaa

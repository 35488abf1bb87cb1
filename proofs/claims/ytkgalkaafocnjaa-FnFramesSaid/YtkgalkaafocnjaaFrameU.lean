/- Frame in the form that the laws' walks use: szX, toX, eqX, markX, heldX of the statements over a Frame of the call's own. -/
import Derived.Test.YtkgalkaafocnjaaTyFrame
import Derived.Test.YtkgalkaafocnjaaByteS
import Derived.Test.YtkgalkaafocnjaaFlatS
import Derived.Test.YtkgalkaafocnjaaSzB
import Derived.Test.YtkgalkaafocnjaaRowS
import Derived.Test.YtkgalkaafocnjaaByteM
namespace Go.Proofs.Ytkgalkaafocnjaa
open Go.RowKit
def datFrame (y : FrameR) : Int × List Int := (y.kind, y.data)
def okFrame (y : FrameR) : Prop := (In64 y.kind) ∧ ∀ z ∈ y.data, In8 z
structure OwnFrame (lo hi : Nat) (w : World) (y : FrameR) : Prop where
  row : OwnS (encI .u8) 1 5 lo hi w y.dataA y.dataN y.dataC y.data
  top : hi ≤ w.heap.size
theorem OwnFrame.below {lo hi : Nat} {w w' : World} {y : FrameR} (h : OwnFrame lo hi w y) (hb : Below w.heap.size w w') : OwnFrame lo hi w' y := ⟨h.row.below hb, Nat.le_trans h.top hb.size⟩
theorem OwnFrame.win {lo hi lo' hi' : Nat} {w w' : World} {y : FrameR} (h : OwnFrame lo hi w y) (hw : Win lo' hi' w w') (hd : hi' ≤ lo ∨ hi ≤ lo') : OwnFrame lo hi w' y := ⟨h.row.win hw hd, Nat.le_trans h.top hw.size⟩
theorem OwnFrame.lo_le {lo hi lo' : Nat} {w : World} {y : FrameR} (h : OwnFrame lo hi w y) (hl : lo' ≤ lo) : OwnFrame lo' hi w y := ⟨h.row.lo_le hl, h.top⟩
theorem OwnFrame.good {lo hi : Nat} {w : World} {y : FrameR} (h : OwnFrame lo hi w y) (g : okFrame y) : goodFrame w y := ⟨g.1, h.row.rd (show ∀ x, (encI .u8 x).length = 1 from fun _ => rfl), g.2⟩
theorem goodFrame_ok {w : World} {y : FrameR} (g : goodFrame w y) : okFrame y := ⟨g.1, g.2.2⟩
theorem okFrame_dat {y y' : FrameR} (g : okFrame y) (h : datFrame y' = datFrame y) : okFrame y' := by
  unfold datFrame at h
  simp only [Prod.mk.injEq] at h
  obtain ⟨h0, h1⟩ := h
  unfold okFrame
  rw [h0, h1]
  exact g
/-- How much of the budget it takes. -/
def bulkFrame (y : FrameR) : Nat := y.dataN
set_option maxHeartbeats 800000 in
theorem szFrame_k (y : FrameR) (left : Int) (w : World) (gr : Rd (encI .u8) 1 w y.dataA y.dataN y.dataC y.data) (h1 : 0 ≤ left) (h2 : left ≤ 1048576) :
    Calls Try.prog 31 #[.agg #[.int .i64 y.kind, .slice y.dataA y.dataN y.dataC], .int .i64 left] w fun e w' => e = .returned (.int .i64 (leftB left (bulkFrame y))) ∧ Below w.heap.size w w' := by
  obtain ⟨y0, yA, yN, yC, yL⟩ := y
  have hle := gr.le
  have hm := gr.max
  unfold maxLen at *
  unfold bulkFrame
  simp only at *
  by_cases c0 : left < ((yN : Nat) : Int)
  · have HL := Lib.hid (leftB_no (left := left) (n := yN) c0)
    have HL2 := Lib.hid (leftB_no (left := left) (n := yN) (by omega))
    go_enter Try.func31, Try.ntmps31
    go_wp2_with fail
    refine (szByteS_any _ _ _ _ _ (by omega) (by omega) (by omega)).mono ?_
    rintro e w1 ⟨rfl, hb⟩
    rw [HL2.out]
    go_wp2
    go_ret
    exact ⟨by rw [HL.out] <;> rfl, ((Below.refl w.heap.size w).alloc (Nat.le_refl _) (.cells #[.int .i64 y0, .slice yA yN yC] 40)).trans (hb.mono (by simp))⟩
  · have HL := Lib.hid (leftB_yes (left := left) (n := yN) c0)
    have HL2 := Lib.hid (leftB_yes (left := left) (n := yN) (by omega))
    go_enter Try.func31, Try.ntmps31
    go_wp2_with fail
    refine (szByteS_any _ _ _ _ _ (by omega) (by omega) (by omega)).mono ?_
    rintro e w1 ⟨rfl, hb⟩
    rw [HL2.out]
    go_wp2
    go_ret
    exact ⟨by rw [HL.out]; go_num, ((Below.refl w.heap.size w).alloc (Nat.le_refl _) (.cells #[.int .i64 y0, .slice yA yN yC] 40)).trans (hb.mono (by simp))⟩
set_option maxHeartbeats 1600000 in
theorem toFrame_k (y : FrameR) (w : World) (gr : Rd (encI .u8) 1 w y.dataA y.dataN y.dataC y.data) (hn : bulkFrame y ≤ 1048576) :
    Calls Try.prog 33 #[.agg #[.int .i64 y.kind, .slice y.dataA y.dataN y.dataC]] w fun e w' => ∃ y' : FrameR, e = .returned (.agg #[.int .i64 y'.kind, .slice y'.dataA y'.dataN y'.dataC]) ∧ datFrame y' = datFrame y ∧ OwnFrame w.heap.size w'.heap.size w' y' ∧ bulkFrame y' = bulkFrame y ∧ Below w.heap.size w w' := by
  obtain ⟨y0, yA, yN, yC, yL⟩ := y
  have hn' : yN ≤ 1048576 := by unfold bulkFrame at hn; simp only at hn; omega
  clear hn
  obtain ⟨R, HR⟩ : ∃ R : Ending → World → Prop, Hid (∀ e w', (∃ y' : FrameR, e = .returned (.agg #[.int .i64 y'.kind, .slice y'.dataA y'.dataN y'.dataC]) ∧ datFrame y' = datFrame ⟨y0, yA, yN, yC, yL⟩ ∧ OwnFrame w.heap.size w'.heap.size w' y' ∧ bulkFrame y' = bulkFrame ⟨y0, yA, yN, yC, yL⟩ ∧ Below w.heap.size w w') = R e w') := ⟨_, fun _ _ => rfl⟩
  simp only [HR.out]
  simp only at *
  go_enter Try.func33, Try.ntmps33
  go_wp2_with fail
  have hb0 := (((Below.refl w.heap.size w).alloc (Nat.le_refl _) (.cells #[.int .i64 y0, .slice yA yN yC] 40)).alloc (by simp) (.cells #[.int .i64 0, .slice none 0 0] 43)).alloc (by simp; omega) (.cells #[.int .i64 y0, .slice none 0 0] 43)
  refine (toByteS_s _ _ _ yL _ (gr.below hb0 (Nat.le_refl _)) hn').mono ?_
  rintro e w1 ⟨q, rfl, ho, hb⟩
  obtain ⟨hc, hf⟩ := bcell hb
  go_wp2
  have hz : w.heap.size + 2 < w1.heap.size := by have := hb.size; simp at this; omega
  refine bodyPost_ret (v := .agg #[.int .i64 y0, .slice (some ⟨q, 0, none⟩) yN yN]) (by simp [results, Try.results33, go_sem, hc]) rfl ?_
  have hlo := ho.lo_le (lo' := w.heap.size + 3) (by simp)
  have hw := ((Win.set (lo := w.heap.size + 1) (hi := w.heap.size + 3) w1 (w.heap.size + 1 + 1) 1 (.slice (some ⟨q, 0, none⟩) yN yN) (by omega) (by omega)).trans (Win.set _ (w.heap.size + 1) 0 (.int .i64 y0) (by omega) (by omega))).trans (Win.set _ (w.heap.size + 1) 1 (.slice (some ⟨q, 0, none⟩) yN yN) (by omega) (by omega))
  rw [← HR.out]
  exact ⟨⟨y0, some ⟨q, 0, none⟩, yN, yN, yL⟩, rfl, rfl, ⟨((hlo.win hw (Or.inl (Nat.le_refl _))).lo_le (by omega)).grow (by simp only [size_set]; exact Nat.le_refl _) (Nat.le_refl _), Nat.le_refl _⟩, rfl, (hb0.trans (hb.mono (by simp; omega))).trans (hw.below (by omega) (by omega))⟩
set_option maxHeartbeats 1600000 in
theorem eqFrame_k (x y : FrameR) (D D' : Int × List Int) (hD : datFrame x = D) (hD' : datFrame y = D') (w : World) (h : Rd (encI .u8) 1 w x.dataA x.dataN x.dataC x.data) (h' : Rd (encI .u8) 1 w y.dataA y.dataN y.dataC y.data) :
    Calls Try.prog 35 #[.agg #[.int .i64 x.kind, .slice x.dataA x.dataN x.dataC], .agg #[.int .i64 y.kind, .slice y.dataA y.dataN y.dataC]] w fun e w' => e = .returned (.bool (decide (D = D'))) ∧ Below w.heap.size w w' := by
  subst hD
  subst hD'
  have hb0 := ((Below.refl w.heap.size w).alloc (Nat.le_refl _) (.cells #[.int .i64 x.kind, .slice x.dataA x.dataN x.dataC] 43)).alloc (by simp) (.cells #[.int .i64 y.kind, .slice y.dataA y.dataN y.dataC] 43)
  have rx := h.below hb0 (Nat.le_refl _)
  have ry := h'.below hb0 (Nat.le_refl _)
  clear h h'
  obtain ⟨x0, xA, xN, xC, xL⟩ := x
  obtain ⟨y0, yA, yN, yC, yL⟩ := y
  unfold datFrame
  simp only at *
  by_cases c0 : x0 = y0
  · subst c0
    by_cases cL : xL = yL
    · have HE := Lib.hid (decide_eq_true cL)
      have HD : Hid (decide ((x0, xL) = (x0, yL)) = true) := Lib.hid (by simp [cL])
      clear cL
      go_enter Try.func35, Try.ntmps35
      go_wp2_with fail
      refine (eqByteS_any _ _ _ _ _ _ xL yL _ rx ry).mono ?_
      rintro e w1 ⟨rfl, hb⟩
      rw [HE.out]
      go_wp2
      go_ret
      exact ⟨by rw [HD.out] <;> rfl, hb0.trans (hb.mono (by simp; omega))⟩
    · have HE := Lib.hid (decide_eq_false cL)
      have HD : Hid (decide ((x0, xL) = (x0, yL)) = false) := Lib.hid (by simp [cL])
      clear cL
      go_enter Try.func35, Try.ntmps35
      go_wp2_with fail
      refine (eqByteS_any _ _ _ _ _ _ xL yL _ rx ry).mono ?_
      rintro e w1 ⟨rfl, hb⟩
      rw [HE.out]
      go_wp2
      go_ret
      exact ⟨by rw [HD.out] <;> rfl, hb0.trans (hb.mono (by simp; omega))⟩
  · have HD : Hid (decide ((x0, xL) = (y0, yL)) = false) := Lib.hid (by simp [c0])
    have hk : (x0 != y0) = true := by simp [c0]
    clear c0 rx ry
    go_enter Try.func35, Try.ntmps35
    go_wp2
    go_ret
    exact ⟨by rw [HD.out] <;> rfl, hb0⟩
set_option maxHeartbeats 400000 in
theorem markFrame_u (y : FrameR) (k : Int) (lo hi : Nat) (w : World) (h : OwnFrame lo hi w y) (hn : y.dataN ≤ 1048576) (hk0 : 0 ≤ k) (hk1 : k ≤ 2305843009213693952) :
    Calls Try.prog 36 #[.agg #[.int .i64 y.kind, .slice y.dataA y.dataN y.dataC], .int .i64 k] w fun e w' => e = .returned (.int .i64 (k + y.dataN)) ∧ OwnS (encI .u8) 1 5 lo hi w' y.dataA y.dataN y.dataC (mks by8 k y.dataN) ∧ Win lo hi w w' := by
  have hb0 := (Below.refl w.heap.size w).alloc (Nat.le_refl _) (.cells #[.int .i64 y.kind, .slice y.dataA y.dataN y.dataC] 43)
  have he := h.row.below hb0
  obtain ⟨y0, yA, yN, yC, yL⟩ := y
  simp only at *
  go_enter Try.func36, Try.ntmps36
  go_wp2_with fail
  refine (markByteS_s _ _ _ _ _ _ _ _ he (by omega) hk0 hk1).mono ?_
  rintro e w1 ⟨rfl, ho, hw⟩
  go_wp2
  go_ret
  exact ⟨rfl, ho, (Win.of_below hb0).trans hw⟩
set_option maxHeartbeats 400000 in
theorem heldFrame_u (y : FrameR) (k : Int) (w : World) (h : Rd (encI .u8) 1 w y.dataA y.dataN y.dataC (mks by8 k y.dataN)) (hn : y.dataN ≤ 1048576) (hk0 : 0 ≤ k) (hk1 : k ≤ 2305843009213693952) :
    Calls Try.prog 39 #[.agg #[.int .i64 y.kind, .slice y.dataA y.dataN y.dataC], .int .i64 k] w fun e w' => e = .returned (.int .i64 (k + y.dataN)) ∧ Below w.heap.size w w' := by
  have hb0 := (Below.refl w.heap.size w).alloc (Nat.le_refl _) (.cells #[.int .i64 y.kind, .slice y.dataA y.dataN y.dataC] 43)
  have he := h.below hb0 (Nat.le_refl _)
  obtain ⟨y0, yA, yN, yC, yL⟩ := y
  simp only at *
  go_enter Try.func39, Try.ntmps39
  go_wp2_with fail
  refine (heldByteS_s _ _ _ _ _ he (by omega) hk0 hk1).mono ?_
  rintro e w1 ⟨rfl, hb⟩
  go_wp2
  go_ret
  exact ⟨rfl, hb0.trans (hb.mono (by simp))⟩
end Go.Proofs.Ytkgalkaafocnjaa

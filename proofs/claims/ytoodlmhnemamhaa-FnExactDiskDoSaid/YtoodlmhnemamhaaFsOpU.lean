/- FsOp in the form that the laws' walks use: szX, toX, eqX, markX, heldX of the statements over a FsOp of the call's own. -/
import Derived.Test.YtoodlmhnemamhaaTyFsOp
import Derived.Test.YtoodlmhnemamhaaByteS
import Derived.Test.YtoodlmhnemamhaaFlatS
import Derived.Test.YtoodlmhnemamhaaSzB
import Derived.Test.YtoodlmhnemamhaaRowS
import Derived.Test.YtoodlmhnemamhaaByteM
namespace Go.Proofs.Ytoodlmhnemamhaa
open Go.RowKit
def datFsOp (y : FsOpR) : Int × ByteArray × ByteArray × List Int := (y.kind, y.name, y.dst, y.data)
def okFsOp (y : FsOpR) : Prop := (In64 y.kind) ∧ (y.name.size ≤ maxLen) ∧ (y.dst.size ≤ maxLen) ∧ ∀ z ∈ y.data, In8 z
structure OwnFsOp (lo hi : Nat) (w : World) (y : FsOpR) : Prop where
  row : OwnS (encI .u8) 1 5 lo hi w y.dataA y.dataN y.dataC y.data
  top : hi ≤ w.heap.size
theorem OwnFsOp.below {lo hi : Nat} {w w' : World} {y : FsOpR} (h : OwnFsOp lo hi w y) (hb : Below w.heap.size w w') : OwnFsOp lo hi w' y := ⟨h.row.below hb, Nat.le_trans h.top hb.size⟩
theorem OwnFsOp.win {lo hi lo' hi' : Nat} {w w' : World} {y : FsOpR} (h : OwnFsOp lo hi w y) (hw : Win lo' hi' w w') (hd : hi' ≤ lo ∨ hi ≤ lo') : OwnFsOp lo hi w' y := ⟨h.row.win hw hd, Nat.le_trans h.top hw.size⟩
theorem OwnFsOp.lo_le {lo hi lo' : Nat} {w : World} {y : FsOpR} (h : OwnFsOp lo hi w y) (hl : lo' ≤ lo) : OwnFsOp lo' hi w y := ⟨h.row.lo_le hl, h.top⟩
theorem OwnFsOp.good {lo hi : Nat} {w : World} {y : FsOpR} (h : OwnFsOp lo hi w y) (g : okFsOp y) : goodFsOp w y := ⟨g.1, g.2.1, g.2.2.1, h.row.rd (show ∀ x, (encI .u8 x).length = 1 from fun _ => rfl), g.2.2.2⟩
theorem goodFsOp_ok {w : World} {y : FsOpR} (g : goodFsOp w y) : okFsOp y := ⟨g.1, g.2.1, g.2.2.1, g.2.2.2.2⟩
theorem okFsOp_dat {y y' : FsOpR} (g : okFsOp y) (h : datFsOp y' = datFsOp y) : okFsOp y' := by
  unfold datFsOp at h
  simp only [Prod.mk.injEq] at h
  obtain ⟨h0, h1, h2, h3⟩ := h
  unfold okFsOp
  rw [h0, h1, h2, h3]
  exact g
theorem goodFsOp_str {w : World} {y : FsOpR} (g : goodFsOp w y) : y.name.size ≤ maxLen ∧ y.dst.size ≤ maxLen := ⟨g.2.1, g.2.2.1⟩
/-- How much of the budget it takes. -/
def bulkFsOp (y : FsOpR) : Nat := y.name.size + y.dst.size + y.dataN
set_option maxHeartbeats 800000 in
theorem szFsOp_k (y : FsOpR) (left : Int) (w : World) (gr : Rd (encI .u8) 1 w y.dataA y.dataN y.dataC y.data) (hs : y.name.size ≤ maxLen ∧ y.dst.size ≤ maxLen) (h1 : 0 ≤ left) (h2 : left ≤ 1048576) :
    Calls Try.prog 10 #[.agg #[.int .i64 y.kind, .string y.name, .string y.dst, .slice y.dataA y.dataN y.dataC], .int .i64 left] w fun e w' => e = .returned (.int .i64 (leftB left (bulkFsOp y))) ∧ Below w.heap.size w w' := by
  obtain ⟨y0, y1, y2, yA, yN, yC, yL⟩ := y
  have hle := gr.le
  have hm := gr.max
  unfold maxLen at *
  unfold bulkFsOp
  simp only at *
  obtain ⟨hs0, hs1⟩ := hs
  by_cases c1 : left < ((y1.size : Nat) : Int)
  · have HL := Lib.hid (leftB_no (left := left) (n := y1.size + y2.size + yN) (by omega))
    go_enter Try.func10, Try.ntmps10
    go_wp2
    go_ret
    exact ⟨by rw [HL.out] <;> rfl, ((Below.refl w.heap.size w).alloc (Nat.le_refl _) (.cells #[.int .i64 y0, .string y1, .string y2, .slice yA yN yC] 24))⟩
  · skip
    by_cases c2 : left < ((y1.size + y2.size : Nat) : Int)
    · have HL := Lib.hid (leftB_no (left := left) (n := y1.size + y2.size + yN) (by omega))
      go_enter Try.func10, Try.ntmps10
      go_wp2
      go_ret
      exact ⟨by rw [HL.out] <;> rfl, ((Below.refl w.heap.size w).alloc (Nat.le_refl _) (.cells #[.int .i64 y0, .string y1, .string y2, .slice yA yN yC] 24))⟩
    · skip
      by_cases c0 : left < ((y1.size + y2.size + yN : Nat) : Int)
      · have HL := Lib.hid (leftB_no (left := left) (n := y1.size + y2.size + yN) c0)
        have HL2 := Lib.hid (leftB_no (left := left - ((y1.size : Nat) : Int) - ((y2.size : Nat) : Int)) (n := yN) (by omega))
        go_enter Try.func10, Try.ntmps10
        go_wp2_with fail
        refine (szByteS_any _ _ _ _ _ (by omega) (by omega) (by omega)).mono ?_
        rintro e w1 ⟨rfl, hb⟩
        rw [HL2.out]
        go_wp2
        go_ret
        exact ⟨by rw [HL.out] <;> rfl, ((Below.refl w.heap.size w).alloc (Nat.le_refl _) (.cells #[.int .i64 y0, .string y1, .string y2, .slice yA yN yC] 24)).trans (hb.mono (by simp))⟩
      · have HL := Lib.hid (leftB_yes (left := left) (n := y1.size + y2.size + yN) c0)
        have HL2 := Lib.hid (leftB_yes (left := left - ((y1.size : Nat) : Int) - ((y2.size : Nat) : Int)) (n := yN) (by omega))
        go_enter Try.func10, Try.ntmps10
        go_wp2_with fail
        refine (szByteS_any _ _ _ _ _ (by omega) (by omega) (by omega)).mono ?_
        rintro e w1 ⟨rfl, hb⟩
        rw [HL2.out]
        go_wp2
        go_ret
        exact ⟨by rw [HL.out]; go_num, ((Below.refl w.heap.size w).alloc (Nat.le_refl _) (.cells #[.int .i64 y0, .string y1, .string y2, .slice yA yN yC] 24)).trans (hb.mono (by simp))⟩
set_option maxHeartbeats 1600000 in
theorem toFsOp_k (y : FsOpR) (w : World) (gr : Rd (encI .u8) 1 w y.dataA y.dataN y.dataC y.data) (hn : bulkFsOp y ≤ 1048576) :
    Calls Try.prog 12 #[.agg #[.int .i64 y.kind, .string y.name, .string y.dst, .slice y.dataA y.dataN y.dataC]] w fun e w' => ∃ y' : FsOpR, e = .returned (.agg #[.int .i64 y'.kind, .string y'.name, .string y'.dst, .slice y'.dataA y'.dataN y'.dataC]) ∧ datFsOp y' = datFsOp y ∧ OwnFsOp w.heap.size w'.heap.size w' y' ∧ bulkFsOp y' = bulkFsOp y ∧ Below w.heap.size w w' := by
  obtain ⟨y0, y1, y2, yA, yN, yC, yL⟩ := y
  have hn' : yN ≤ 1048576 := by unfold bulkFsOp at hn; simp only at hn; omega
  clear hn
  obtain ⟨R, HR⟩ : ∃ R : Ending → World → Prop, Hid (∀ e w', (∃ y' : FsOpR, e = .returned (.agg #[.int .i64 y'.kind, .string y'.name, .string y'.dst, .slice y'.dataA y'.dataN y'.dataC]) ∧ datFsOp y' = datFsOp ⟨y0, y1, y2, yA, yN, yC, yL⟩ ∧ OwnFsOp w.heap.size w'.heap.size w' y' ∧ bulkFsOp y' = bulkFsOp ⟨y0, y1, y2, yA, yN, yC, yL⟩ ∧ Below w.heap.size w w') = R e w') := ⟨_, fun _ _ => rfl⟩
  simp only [HR.out]
  simp only at *
  go_enter Try.func12, Try.ntmps12
  go_wp2_with fail
  have hb0 := (((Below.refl w.heap.size w).alloc (Nat.le_refl _) (.cells #[.int .i64 y0, .string y1, .string y2, .slice yA yN yC] 24)).alloc (by simp) (.cells #[.int .i64 0, .string ⟨#[]⟩, .string ⟨#[]⟩, .slice none 0 0] 27)).alloc (by simp; omega) (.cells #[.int .i64 y0, .string y1, .string y2, .slice none 0 0] 27)
  refine (toByteS_s _ _ _ yL _ (gr.below hb0 (Nat.le_refl _)) hn').mono ?_
  rintro e w1 ⟨q, rfl, ho, hb⟩
  obtain ⟨hc, hf⟩ := bcell hb
  go_wp2
  have hz : w.heap.size + 2 < w1.heap.size := by have := hb.size; simp at this; omega
  refine bodyPost_ret (v := .agg #[.int .i64 y0, .string y1, .string y2, .slice (some ⟨q, 0, none⟩) yN yN]) (by simp [results, Try.results12, go_sem, hc]) rfl ?_
  have hlo := ho.lo_le (lo' := w.heap.size + 3) (by simp)
  have hw := ((((Win.set (lo := w.heap.size + 1) (hi := w.heap.size + 3) w1 (w.heap.size + 1 + 1) 3 (.slice (some ⟨q, 0, none⟩) yN yN) (by omega) (by omega)).trans (Win.set _ (w.heap.size + 1) 0 (.int .i64 y0) (by omega) (by omega))).trans (Win.set _ (w.heap.size + 1) 1 (.string y1) (by omega) (by omega))).trans (Win.set _ (w.heap.size + 1) 2 (.string y2) (by omega) (by omega))).trans (Win.set _ (w.heap.size + 1) 3 (.slice (some ⟨q, 0, none⟩) yN yN) (by omega) (by omega))
  rw [← HR.out]
  exact ⟨⟨y0, y1, y2, some ⟨q, 0, none⟩, yN, yN, yL⟩, rfl, rfl, ⟨((hlo.win hw (Or.inl (Nat.le_refl _))).lo_le (by omega)).grow (by simp only [size_set]; exact Nat.le_refl _) (Nat.le_refl _), Nat.le_refl _⟩, rfl, (hb0.trans (hb.mono (by simp; omega))).trans (hw.below (by omega) (by omega))⟩
theorem bytes_neFsOp {x y : ByteArray} (h : ¬ x = y) : (x.toList == y.toList) = false := by
  rw [beq_eq_false_iff_ne]
  intro e
  apply h
  rw [ByteArray.toList_eq, ByteArray.toList_eq] at e
  have := Array.toList_inj.1 e
  cases x; cases y; simp_all
set_option maxHeartbeats 1600000 in
theorem eqFsOp_k (x y : FsOpR) (D D' : Int × ByteArray × ByteArray × List Int) (hD : datFsOp x = D) (hD' : datFsOp y = D') (w : World) (h : Rd (encI .u8) 1 w x.dataA x.dataN x.dataC x.data) (h' : Rd (encI .u8) 1 w y.dataA y.dataN y.dataC y.data) :
    Calls Try.prog 14 #[.agg #[.int .i64 x.kind, .string x.name, .string x.dst, .slice x.dataA x.dataN x.dataC], .agg #[.int .i64 y.kind, .string y.name, .string y.dst, .slice y.dataA y.dataN y.dataC]] w fun e w' => e = .returned (.bool (decide (D = D'))) ∧ Below w.heap.size w w' := by
  subst hD
  subst hD'
  have hb0 := ((Below.refl w.heap.size w).alloc (Nat.le_refl _) (.cells #[.int .i64 x.kind, .string x.name, .string x.dst, .slice x.dataA x.dataN x.dataC] 27)).alloc (by simp) (.cells #[.int .i64 y.kind, .string y.name, .string y.dst, .slice y.dataA y.dataN y.dataC] 27)
  have rx := h.below hb0 (Nat.le_refl _)
  have ry := h'.below hb0 (Nat.le_refl _)
  clear h h'
  obtain ⟨x0, x1, x2, xA, xN, xC, xL⟩ := x
  obtain ⟨y0, y1, y2, yA, yN, yC, yL⟩ := y
  unfold datFsOp
  simp only at *
  by_cases c0 : x0 = y0
  · subst c0
    by_cases c1 : x1 = y1
    · subst c1
      by_cases c2 : x2 = y2
      · subst c2
        by_cases cL : xL = yL
        · have HE := Lib.hid (decide_eq_true cL)
          have HD : Hid (decide ((x0, x1, x2, xL) = (x0, x1, x2, yL)) = true) := Lib.hid (by simp [cL])
          clear cL
          go_enter Try.func14, Try.ntmps14
          go_wp2_with fail
          refine (eqByteS_any _ _ _ _ _ _ xL yL _ rx ry).mono ?_
          rintro e w1 ⟨rfl, hb⟩
          rw [HE.out]
          go_wp2
          go_ret
          exact ⟨by rw [HD.out] <;> rfl, hb0.trans (hb.mono (by simp; omega))⟩
        · have HE := Lib.hid (decide_eq_false cL)
          have HD : Hid (decide ((x0, x1, x2, xL) = (x0, x1, x2, yL)) = false) := Lib.hid (by simp [cL])
          clear cL
          go_enter Try.func14, Try.ntmps14
          go_wp2_with fail
          refine (eqByteS_any _ _ _ _ _ _ xL yL _ rx ry).mono ?_
          rintro e w1 ⟨rfl, hb⟩
          rw [HE.out]
          go_wp2
          go_ret
          exact ⟨by rw [HD.out] <;> rfl, hb0.trans (hb.mono (by simp; omega))⟩
      · have HD : Hid (decide ((x0, x1, x2, xL) = (x0, x1, y2, yL)) = false) := Lib.hid (by simp [c2])
        have hk : (x2.toList == y2.toList) = false := bytes_neFsOp c2
        clear c2 rx ry
        go_enter Try.func14, Try.ntmps14
        go_wp2
        go_ret
        exact ⟨by rw [HD.out] <;> rfl, hb0⟩
    · have HD : Hid (decide ((x0, x1, x2, xL) = (x0, y1, y2, yL)) = false) := Lib.hid (by simp [c1])
      have hk : (x1.toList == y1.toList) = false := bytes_neFsOp c1
      clear c1 rx ry
      go_enter Try.func14, Try.ntmps14
      go_wp2
      go_ret
      exact ⟨by rw [HD.out] <;> rfl, hb0⟩
  · have HD : Hid (decide ((x0, x1, x2, xL) = (y0, y1, y2, yL)) = false) := Lib.hid (by simp [c0])
    have hk : (x0 != y0) = true := by simp [c0]
    clear c0 rx ry
    go_enter Try.func14, Try.ntmps14
    go_wp2
    go_ret
    exact ⟨by rw [HD.out] <;> rfl, hb0⟩
set_option maxHeartbeats 400000 in
theorem markFsOp_u (y : FsOpR) (k : Int) (lo hi : Nat) (w : World) (h : OwnFsOp lo hi w y) (hn : y.dataN ≤ 1048576) (hk0 : 0 ≤ k) (hk1 : k ≤ 2305843009213693952) :
    Calls Try.prog 35 #[.agg #[.int .i64 y.kind, .string y.name, .string y.dst, .slice y.dataA y.dataN y.dataC], .int .i64 k] w fun e w' => e = .returned (.int .i64 (k + y.dataN)) ∧ OwnS (encI .u8) 1 5 lo hi w' y.dataA y.dataN y.dataC (mks by8 k y.dataN) ∧ Win lo hi w w' := by
  have hb0 := (Below.refl w.heap.size w).alloc (Nat.le_refl _) (.cells #[.int .i64 y.kind, .string y.name, .string y.dst, .slice y.dataA y.dataN y.dataC] 27)
  have he := h.row.below hb0
  obtain ⟨y0, y1, y2, yA, yN, yC, yL⟩ := y
  simp only at *
  go_enter Try.func35, Try.ntmps35
  go_wp2_with fail
  refine (markByteS_s _ _ _ _ _ _ _ _ he (by omega) hk0 hk1).mono ?_
  rintro e w1 ⟨rfl, ho, hw⟩
  go_wp2
  go_ret
  exact ⟨rfl, ho, (Win.of_below hb0).trans hw⟩
end Go.Proofs.Ytoodlmhnemamhaa

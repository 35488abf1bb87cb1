/- File in the form that the laws' walks use: szX, toX, eqX, markX, heldX of the statements over a File of the call's own. -/
import Derived.Test.YtoodlmhnemamhaaTyFile
import Derived.Test.YtoodlmhnemamhaaByteS
import Derived.Test.YtoodlmhnemamhaaFlatS
import Derived.Test.YtoodlmhnemamhaaSzB
import Derived.Test.YtoodlmhnemamhaaRowS
namespace Go.Proofs.Ytoodlmhnemamhaa
open Go.RowKit
def datFile (y : FileR) : ByteArray × List Int := (y.name, y.data)
def okFile (y : FileR) : Prop := (y.name.size ≤ maxLen) ∧ ∀ z ∈ y.data, In8 z
structure OwnFile (lo hi : Nat) (w : World) (y : FileR) : Prop where
  row : OwnS (encI .u8) 1 5 lo hi w y.dataA y.dataN y.dataC y.data
  top : hi ≤ w.heap.size
theorem OwnFile.below {lo hi : Nat} {w w' : World} {y : FileR} (h : OwnFile lo hi w y) (hb : Below w.heap.size w w') : OwnFile lo hi w' y := ⟨h.row.below hb, Nat.le_trans h.top hb.size⟩
theorem OwnFile.win {lo hi lo' hi' : Nat} {w w' : World} {y : FileR} (h : OwnFile lo hi w y) (hw : Win lo' hi' w w') (hd : hi' ≤ lo ∨ hi ≤ lo') : OwnFile lo hi w' y := ⟨h.row.win hw hd, Nat.le_trans h.top hw.size⟩
theorem OwnFile.lo_le {lo hi lo' : Nat} {w : World} {y : FileR} (h : OwnFile lo hi w y) (hl : lo' ≤ lo) : OwnFile lo' hi w y := ⟨h.row.lo_le hl, h.top⟩
theorem OwnFile.good {lo hi : Nat} {w : World} {y : FileR} (h : OwnFile lo hi w y) (g : okFile y) : goodFile w y := ⟨g.1, h.row.rd (show ∀ x, (encI .u8 x).length = 1 from fun _ => rfl), g.2⟩
theorem goodFile_ok {w : World} {y : FileR} (g : goodFile w y) : okFile y := ⟨g.1, g.2.2⟩
theorem okFile_dat {y y' : FileR} (g : okFile y) (h : datFile y' = datFile y) : okFile y' := by
  unfold datFile at h
  simp only [Prod.mk.injEq] at h
  obtain ⟨h0, h1⟩ := h
  unfold okFile
  rw [h0, h1]
  exact g
theorem goodFile_str {w : World} {y : FileR} (g : goodFile w y) : y.name.size ≤ maxLen := g.1
/-- How much of the budget it takes. -/
def bulkFile (y : FileR) : Nat := y.name.size + y.dataN
set_option maxHeartbeats 800000 in
theorem szFile_k (y : FileR) (left : Int) (w : World) (gr : Rd (encI .u8) 1 w y.dataA y.dataN y.dataC y.data) (hs : y.name.size ≤ maxLen) (h1 : 0 ≤ left) (h2 : left ≤ 1048576) :
    Calls Try.prog 65 #[.agg #[.string y.name, .slice y.dataA y.dataN y.dataC], .int .i64 left] w fun e w' => e = .returned (.int .i64 (leftB left (bulkFile y))) ∧ Below w.heap.size w w' := by
  obtain ⟨y0, yA, yN, yC, yL⟩ := y
  have hle := gr.le
  have hm := gr.max
  unfold maxLen at *
  unfold bulkFile
  simp only at *
  have hs0 := hs
  by_cases c1 : left < ((y0.size : Nat) : Int)
  · have HL := Lib.hid (leftB_no (left := left) (n := y0.size + yN) (by omega))
    go_enter Try.func65, Try.ntmps65
    go_wp2
    go_ret
    exact ⟨by rw [HL.out] <;> rfl, ((Below.refl w.heap.size w).alloc (Nat.le_refl _) (.cells #[.string y0, .slice yA yN yC] 88))⟩
  · skip
    by_cases c0 : left < ((y0.size + yN : Nat) : Int)
    · have HL := Lib.hid (leftB_no (left := left) (n := y0.size + yN) c0)
      have HL2 := Lib.hid (leftB_no (left := left - ((y0.size : Nat) : Int)) (n := yN) (by omega))
      go_enter Try.func65, Try.ntmps65
      go_wp2_with fail
      refine (szByteS_any _ _ _ _ _ (by omega) (by omega) (by omega)).mono ?_
      rintro e w1 ⟨rfl, hb⟩
      rw [HL2.out]
      go_wp2
      go_ret
      exact ⟨by rw [HL.out] <;> rfl, ((Below.refl w.heap.size w).alloc (Nat.le_refl _) (.cells #[.string y0, .slice yA yN yC] 88)).trans (hb.mono (by simp))⟩
    · have HL := Lib.hid (leftB_yes (left := left) (n := y0.size + yN) c0)
      have HL2 := Lib.hid (leftB_yes (left := left - ((y0.size : Nat) : Int)) (n := yN) (by omega))
      go_enter Try.func65, Try.ntmps65
      go_wp2_with fail
      refine (szByteS_any _ _ _ _ _ (by omega) (by omega) (by omega)).mono ?_
      rintro e w1 ⟨rfl, hb⟩
      rw [HL2.out]
      go_wp2
      go_ret
      exact ⟨by rw [HL.out]; go_num, ((Below.refl w.heap.size w).alloc (Nat.le_refl _) (.cells #[.string y0, .slice yA yN yC] 88)).trans (hb.mono (by simp))⟩
set_option maxHeartbeats 1600000 in
theorem toFile_k (y : FileR) (w : World) (gr : Rd (encI .u8) 1 w y.dataA y.dataN y.dataC y.data) (hn : bulkFile y ≤ 1048576) :
    Calls Try.prog 68 #[.agg #[.string y.name, .slice y.dataA y.dataN y.dataC]] w fun e w' => ∃ y' : FileR, e = .returned (.agg #[.string y'.name, .slice y'.dataA y'.dataN y'.dataC]) ∧ datFile y' = datFile y ∧ OwnFile w.heap.size w'.heap.size w' y' ∧ bulkFile y' = bulkFile y ∧ Below w.heap.size w w' := by
  obtain ⟨y0, yA, yN, yC, yL⟩ := y
  have hn' : yN ≤ 1048576 := by unfold bulkFile at hn; simp only at hn; omega
  clear hn
  obtain ⟨R, HR⟩ : ∃ R : Ending → World → Prop, Hid (∀ e w', (∃ y' : FileR, e = .returned (.agg #[.string y'.name, .slice y'.dataA y'.dataN y'.dataC]) ∧ datFile y' = datFile ⟨y0, yA, yN, yC, yL⟩ ∧ OwnFile w.heap.size w'.heap.size w' y' ∧ bulkFile y' = bulkFile ⟨y0, yA, yN, yC, yL⟩ ∧ Below w.heap.size w w') = R e w') := ⟨_, fun _ _ => rfl⟩
  simp only [HR.out]
  simp only at *
  go_enter Try.func68, Try.ntmps68
  go_wp2_with fail
  have hb0 := (((Below.refl w.heap.size w).alloc (Nat.le_refl _) (.cells #[.string y0, .slice yA yN yC] 88)).alloc (by simp) (.cells #[.string ⟨#[]⟩, .slice none 0 0] 71)).alloc (by simp; omega) (.cells #[.string y0, .slice none 0 0] 71)
  refine (toByteS_s _ _ _ yL _ (gr.below hb0 (Nat.le_refl _)) hn').mono ?_
  rintro e w1 ⟨q, rfl, ho, hb⟩
  obtain ⟨hc, hf⟩ := bcell hb
  go_wp2
  have hz : w.heap.size + 2 < w1.heap.size := by have := hb.size; simp at this; omega
  refine bodyPost_ret (v := .agg #[.string y0, .slice (some ⟨q, 0, none⟩) yN yN]) (by simp [results, Try.results68, go_sem, hc]) rfl ?_
  have hlo := ho.lo_le (lo' := w.heap.size + 3) (by simp)
  have hw := ((Win.set (lo := w.heap.size + 1) (hi := w.heap.size + 3) w1 (w.heap.size + 1 + 1) 1 (.slice (some ⟨q, 0, none⟩) yN yN) (by omega) (by omega)).trans (Win.set _ (w.heap.size + 1) 0 (.string y0) (by omega) (by omega))).trans (Win.set _ (w.heap.size + 1) 1 (.slice (some ⟨q, 0, none⟩) yN yN) (by omega) (by omega))
  rw [← HR.out]
  exact ⟨⟨y0, some ⟨q, 0, none⟩, yN, yN, yL⟩, rfl, rfl, ⟨((hlo.win hw (Or.inl (Nat.le_refl _))).lo_le (by omega)).grow (by simp only [size_set]; exact Nat.le_refl _) (Nat.le_refl _), Nat.le_refl _⟩, rfl, (hb0.trans (hb.mono (by simp; omega))).trans (hw.below (by omega) (by omega))⟩
theorem bytes_neFile {x y : ByteArray} (h : ¬ x = y) : (x.toList == y.toList) = false := by
  rw [beq_eq_false_iff_ne]
  intro e
  apply h
  rw [ByteArray.toList_eq, ByteArray.toList_eq] at e
  have := Array.toList_inj.1 e
  cases x; cases y; simp_all
set_option maxHeartbeats 1600000 in
theorem eqFile_k (x y : FileR) (D D' : ByteArray × List Int) (hD : datFile x = D) (hD' : datFile y = D') (w : World) (h : Rd (encI .u8) 1 w x.dataA x.dataN x.dataC x.data) (h' : Rd (encI .u8) 1 w y.dataA y.dataN y.dataC y.data) :
    Calls Try.prog 63 #[.agg #[.string x.name, .slice x.dataA x.dataN x.dataC], .agg #[.string y.name, .slice y.dataA y.dataN y.dataC]] w fun e w' => e = .returned (.bool (decide (D = D'))) ∧ Below w.heap.size w w' := by
  subst hD
  subst hD'
  have hb0 := ((Below.refl w.heap.size w).alloc (Nat.le_refl _) (.cells #[.string x.name, .slice x.dataA x.dataN x.dataC] 71)).alloc (by simp) (.cells #[.string y.name, .slice y.dataA y.dataN y.dataC] 71)
  have rx := h.below hb0 (Nat.le_refl _)
  have ry := h'.below hb0 (Nat.le_refl _)
  clear h h'
  obtain ⟨x0, xA, xN, xC, xL⟩ := x
  obtain ⟨y0, yA, yN, yC, yL⟩ := y
  unfold datFile
  simp only at *
  by_cases c0 : x0 = y0
  · subst c0
    by_cases cL : xL = yL
    · have HE := Lib.hid (decide_eq_true cL)
      have HD : Hid (decide ((x0, xL) = (x0, yL)) = true) := Lib.hid (by simp [cL])
      clear cL
      go_enter Try.func63, Try.ntmps63
      go_wp2_with fail
      refine (eqByteS_any _ _ _ _ _ _ xL yL _ rx ry).mono ?_
      rintro e w1 ⟨rfl, hb⟩
      rw [HE.out]
      go_wp2
      go_ret
      exact ⟨by rw [HD.out] <;> rfl, hb0.trans (hb.mono (by simp; omega))⟩
    · have HE := Lib.hid (decide_eq_false cL)
      have HD : Hid (decide ((x0, xL) = (x0, yL)) = false) := Lib.hid (by simp [cL])
      clear cL
      go_enter Try.func63, Try.ntmps63
      go_wp2_with fail
      refine (eqByteS_any _ _ _ _ _ _ xL yL _ rx ry).mono ?_
      rintro e w1 ⟨rfl, hb⟩
      rw [HE.out]
      go_wp2
      go_ret
      exact ⟨by rw [HD.out] <;> rfl, hb0.trans (hb.mono (by simp; omega))⟩
  · have HD : Hid (decide ((x0, xL) = (y0, yL)) = false) := Lib.hid (by simp [c0])
    have hk : (x0.toList == y0.toList) = false := bytes_neFile c0
    clear c0 rx ry
    go_enter Try.func63, Try.ntmps63
    go_wp2
    go_ret
    exact ⟨by rw [HD.out] <;> rfl, hb0⟩
end Go.Proofs.Ytoodlmhnemamhaa

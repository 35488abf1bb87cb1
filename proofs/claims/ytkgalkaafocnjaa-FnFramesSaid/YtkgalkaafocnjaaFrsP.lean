/- Frames one behind the other: what FramesRead gives of them, whole, torn and bent. No program. -/
import Derived.Test.YtkgalkaafocnjaaCrcP
import Derived.Test.YtkgalkaafocnjaaFramesRead
namespace Go.Proofs.Ytkgalkaafocnjaa
open Go.RowKit
theorem frame_parts {H X S D : List Int} (hH : H.length = 8) (hX : X.length = 6) (hS : S.length = 6) :
    (H ++ (X ++ (S ++ D))).take 8 = H ∧ frH (H ++ (X ++ (S ++ D))) = fixN X ∧ frS (H ++ (X ++ (S ++ D))) = fixN S ∧ frN (H ++ (X ++ (S ++ D))) = fixN ((H.drop 2).take 6) ∧
    (H ++ (X ++ (S ++ D))).getD 0 0 = H.getD 0 0 ∧ (H ++ (X ++ (S ++ D))).getD 1 0 = H.getD 1 0 ∧ (H ++ (X ++ (S ++ D))).drop 20 = D ∧ (H ++ (X ++ (S ++ D))).length = 20 + D.length := by
  have d8 : (H ++ (X ++ (S ++ D))).drop 8 = X ++ (S ++ D) := by rw [← hH]; exact List.drop_left
  have d14 : (H ++ (X ++ (S ++ D))).drop 14 = S ++ D := by
    rw [show 14 = 8 + 6 from rfl, ← List.drop_drop, d8, ← hX]; exact List.drop_left
  have d20 : (H ++ (X ++ (S ++ D))).drop 20 = D := by
    rw [show 20 = 14 + 6 from rfl, ← List.drop_drop, d14, ← hS]; exact List.drop_left
  refine ⟨by rw [← hH]; exact List.take_left, ?_, ?_, ?_, ?_, ?_, d20, by simp [List.length_append, hH, hX, hS]; omega⟩
  · unfold frH; rw [d8, ← hX]; rw [List.take_left]
  · unfold frS; rw [d14, ← hS]; rw [List.take_left]
  · unfold frN
    rw [List.drop_append_of_le_length (by omega), List.take_append_of_le_length (by simp; omega)]
  · simp [List.getD, List.getElem?_append, hH]
  · simp [List.getD, List.getElem?_append, hH]
theorem readL_zero {H X S D : List Int} (hH : H.length = 8) (hX : X.length = 6) (hS : S.length = 6) (p : Int) (h : (frameReadL (H ++ (X ++ (S ++ D))) p).2.2 = 0) :
    H.getD 0 0 = 71 ∧ fixN X = crcN H ∧ fixN S = crcN (D.take (fixN ((H.drop 2).take 6))) := by
  obtain ⟨e8, eH, eS, eN, e0, e1, e20, el⟩ := frame_parts (D := D) hH hX hS
  by_cases h1 : (H ++ (X ++ (S ++ D))).length < 14
  · rw [frameReadL_2 p h1] at h; simp at h
  by_cases h2 : frBad (H ++ (X ++ (S ++ D)))
  · rw [frameReadL_3 p h1 h2] at h; simp at h
  by_cases h3 : (H ++ (X ++ (S ++ D))).length < 20 + frN (H ++ (X ++ (S ++ D)))
  · rw [frameReadL_4 p h1 h2 h3] at h; simp at h
  by_cases h4 : frS (H ++ (X ++ (S ++ D))) = crcN (frD (H ++ (X ++ (S ++ D))))
  · unfold frBad at h2
    rw [e0, eH, e8] at h2
    unfold frD at h4
    rw [eS, e20, eN] at h4
    refine ⟨?_, ?_, h4⟩
    · exact Classical.byContradiction (fun hh => h2 (Or.inl hh))
    · exact Classical.byContradiction (fun hh => h2 (Or.inr (Or.inr (Or.inr hh))))
  · rw [frameReadL_5 p h1 h2 h3 h4] at h; simp at h
def rightD (f : Int × List Int) : Prop := (1 ≤ f.1 ∧ f.1 ≤ 3) ∧ (∀ z ∈ f.2, In8 z) ∧ f.2.length ≤ 9
theorem frameL_eq (k : Int) (d rest : List Int) : frameL k d ++ rest = headF k d.length ++ (fdig (crcN (headF k d.length)) ++ (fdig (crcN d) ++ (d ++ rest))) := by
  unfold frameL; simp only [List.append_assoc]
theorem headF_n (k : Int) (n : Nat) (h : n ≤ 60000) : fixN (((headF k n).drop 2).take 6) = n := by
  have e : (headF k n).drop 2 = fdig n := rfl
  rw [e, List.take_of_length_le (by rw [fdig_len]; omega)]
  exact fdig_fix (by omega)
theorem crc_small (l : List Int) : crcN l < 281474976710656 := by have := crcN_le l; omega
/-- A frame that is all there is read. -/
theorem readL_whole {f : Int × List Int} (hf : rightD f) (rest : List Int) (p : Int) : frameReadL (frameL f.1 f.2 ++ rest) p = (f, p + 20 + (f.2.length : Int), 0) := by
  obtain ⟨k, d⟩ := f
  obtain ⟨⟨hk1, hk3⟩, h8, h9⟩ := hf
  simp only at *
  rw [frameL_eq]
  obtain ⟨e8, eH, eS, eN, e0, e1, e20, el⟩ := frame_parts (D := d ++ rest) (headF_len k d.length) (fdig_len (crcN (headF k d.length))) (fdig_len (crcN d))
  have hn : frN (headF k d.length ++ (fdig (crcN (headF k d.length)) ++ (fdig (crcN d) ++ (d ++ rest)))) = d.length := by rw [eN]; exact headF_n k _ (by omega)
  have hD : frD (headF k d.length ++ (fdig (crcN (headF k d.length)) ++ (fdig (crcN d) ++ (d ++ rest)))) = d := by unfold frD; rw [e20, hn]; exact List.take_left
  rw [frameReadL_0 p (by rw [el]; omega) ?_ (by rw [el, hn, List.length_append]; omega) (by rw [eS, hD]; exact fdig_fix (crc_small _)), e1, hD, hn]
  · rfl
  · unfold frBad
    rw [e0, e1, hn, eH, e8]
    rintro (h | h | h | h)
    · exact h rfl
    · have e : (headF k d.length).getD 1 0 = k := rfl
      rw [e] at h
      unfold kindB at h
      simp at h
      omega
    · omega
    · exact h (fdig_fix (crc_small _))
theorem crcN_set {l : List Int} (h8 : ∀ y ∈ l, In8 y) {j : Nat} (hj : j < l.length) {z : Int} (hz : In8 z) (h : crcN l = crcN (l.set j z)) : l.getD j 0 = z := by
  have e1 : l = l.take j ++ l[j] :: l.drop (j + 1) := by rw [List.getElem_cons_drop, List.take_append_drop]
  have e2 : l.set j z = l.take j ++ z :: l.drop (j + 1) := List.set_eq_take_append_cons_drop.trans (if_pos hj)
  have e3 : l.getD j 0 = l[j] := by simp [List.getD, hj]
  rw [e3]
  rw [e2] at h
  exact crcN_turn (a := l.take j) (b := l.drop (j + 1)) (fun x hx => h8 x (List.mem_of_mem_take hx)) (fun x hx => h8 x (List.mem_of_mem_drop hx)) (h8 _ (List.getElem_mem hj)) hz (by rw [← e1]; exact h)
theorem in8_set {l : List Int} (h8 : ∀ y ∈ l, In8 y) {j : Nat} {z : Int} (hz : In8 z) : ∀ y ∈ l.set j z, In8 y := fun y hy => (List.mem_or_eq_of_mem_set hy).elim (h8 y) (fun e => by rw [e]; exact hz)
theorem fixN_set {l : List Int} (hl : l.length = 6) (h8 : ∀ y ∈ l, In8 y) {j : Nat} (hj : j < 6) {z : Int} (hz : In8 z) (h : fixN (l.set j z) = fixN l) : l.getD j 0 = z := by
  have e1 := fix6 hl h8
  have e2 := fix6 (l := l.set j z) (by simp [hl]) (in8_set h8 hz)
  rw [h, e1] at e2
  rw [e2]
  simp [List.getD, hl, hj]
/-- A frame with a byte turned is not read. -/
theorem readL_bent {f : Int × List Int} (hf : rightD f) (rest : List Int) (p : Int) {j : Nat} (hj : j < 20 + f.2.length) {z : Int} (hz : In8 z) (hne : (frameL f.1 f.2).getD j 0 ≠ z) : (frameReadL ((frameL f.1 f.2).set j z ++ rest) p).2.2 ≠ 0 := by
  obtain ⟨k, d⟩ := f
  obtain ⟨⟨hk1, hk3⟩, h8, h9⟩ := hf
  simp only at *
  intro h0
  have hH := headF_len k d.length
  have hX := fdig_len (crcN (headF k d.length))
  have hS := fdig_len (crcN d)
  have hH8 := headF_in8 hk1 hk3 d.length
  have hX8 := fdig_in8 (crcN (headF k d.length))
  have hS8 := fdig_in8 (crcN d)
  have hXv := fdig_fix (crc_small (headF k d.length))
  have hSv := fdig_fix (crc_small d)
  have hn := headF_n k d.length (by omega)
  have e : frameL k d = headF k d.length ++ (fdig (crcN (headF k d.length)) ++ (fdig (crcN d) ++ d)) := by unfold frameL; simp only [List.append_assoc]
  rw [e] at hne h0
  generalize headF k d.length = H at *
  generalize hXe : fdig (crcN H) = X at *
  generalize hSe : fdig (crcN d) = T at *
  by_cases j1 : j < 8
  · rw [List.set_append_left _ _ (by omega)] at h0
    simp only [List.append_assoc] at h0
    obtain ⟨_, h2, _⟩ := readL_zero (by simp [hH]) hX hS p h0
    rw [hXv] at h2
    have e1 := crcN_set hH8 (by omega) hz h2
    exact hne (by rw [← e1]; simp [List.getD, List.getElem?_append, hH, j1])
  by_cases j2 : j < 14
  · rw [List.set_append_right _ _ (by omega), List.set_append_left _ _ (by omega)] at h0
    simp only [List.append_assoc] at h0
    obtain ⟨_, h2, _⟩ := readL_zero hH (by simp [hX]) hS p h0
    have e1 := fixN_set hX hX8 (j := j - H.length) (by omega) hz (by rw [h2, hXv])
    exact hne (by rw [← e1]; simp [List.getD, List.getElem?_append, hH, hX, j1, show j - 8 < 6 by omega])
  by_cases j3 : j < 20
  · rw [List.set_append_right _ _ (by omega), List.set_append_right _ _ (by omega), List.set_append_left _ _ (by omega)] at h0
    simp only [List.append_assoc] at h0
    obtain ⟨_, _, h3⟩ := readL_zero hH hX (by simp [hS]) p h0
    rw [hn, List.take_left] at h3
    have e1 := fixN_set hS hS8 (j := j - H.length - X.length) (by omega) hz (by rw [h3, hSv])
    exact hne (by rw [← e1]; simp [List.getD, List.getElem?_append, hH, hX, hS, j1, show ¬ j - 8 < 6 by omega, show j - 8 - 6 < 6 by omega])
  · rw [List.set_append_right _ _ (by omega), List.set_append_right _ _ (by omega), List.set_append_right _ _ (by omega)] at h0
    simp only [List.append_assoc] at h0
    obtain ⟨_, _, h3⟩ := readL_zero hH hX hS p h0
    rw [hn, hSv, List.take_append_of_le_length (by simp), List.take_of_length_le (by simp)] at h3
    have e1 := crcN_set h8 (by omega) hz h3
    exact hne (by rw [← e1]; simp [List.getD, List.getElem?_append, hH, hX, hS, j1, show ¬ j - 8 < 6 by omega, show ¬ j - 8 - 6 < 6 by omega])
end Go.Proofs.Ytkgalkaafocnjaa

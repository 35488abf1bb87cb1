/- FramesRead over frames one behind the other. No program. -/
import Derived.Test.YtkgalkaafocnjaaFrsP
namespace Go.Proofs.Ytkgalkaafocnjaa
open Go.RowKit
def catF (fs : List (Int × List Int)) : List Int := fs.flatMap (fun f => frameL f.1 f.2)
theorem catF_cons (f : Int × List Int) (fs : List (Int × List Int)) : catF (f :: fs) = frameL f.1 f.2 ++ catF fs := by simp [catF]
theorem catF_snoc (f : Int × List Int) (fs : List (Int × List Int)) : catF (fs ++ [f]) = catF fs ++ frameL f.1 f.2 := by simp [catF]
theorem frameL_len (k : Int) (d : List Int) : (frameL k d).length = 20 + d.length := by
  unfold frameL
  simp only [List.length_append, headF_len, fdig_len]
theorem catF_ge : ∀ fs : List (Int × List Int), 20 * fs.length ≤ (catF fs).length
  | [] => Nat.le_refl _
  | f :: fs => by have := catF_ge fs; rw [catF_cons, List.length_append, frameL_len, List.length_cons]; omega
theorem framesGo_cat (rest : List Int) (g : Nat) : ∀ (fs : List (Int × List Int)), (∀ f ∈ fs, rightD f) → ∀ pre : List Int,
    framesGo (pre ++ (catF fs ++ rest)) (fs.length + g) pre.length = (fs ++ (framesGo (pre ++ (catF fs ++ rest)) g (pre.length + (catF fs).length)).1, (framesGo (pre ++ (catF fs ++ rest)) g (pre.length + (catF fs).length)).2)
  | [], _, pre => by simp [catF]
  | f :: fs, h, pre => by
    have hr : frameReadF (pre ++ (catF (f :: fs) ++ rest)) (pre.length : Int) = (f, ((pre.length + (20 + f.2.length) : Nat) : Int), 0) := by
      rw [frameReadF_in _ (by simp), List.drop_left, catF_cons, List.append_assoc, readL_whole (h f (by simp))]
      simp only [Prod.mk.injEq, true_and, and_true]
      omega
    have ih := framesGo_cat rest g fs (fun x hx => h x (by simp [hx])) (pre ++ frameL f.1 f.2)
    have ez : pre ++ (catF (f :: fs) ++ rest) = pre ++ frameL f.1 f.2 ++ (catF fs ++ rest) := by rw [catF_cons]; simp only [List.append_assoc]
    rw [List.length_cons, show fs.length + 1 + g = (fs.length + g) + 1 from by omega, framesGo_step (by rw [hr]) (q' := pre.length + (20 + f.2.length)) (by rw [hr])]
    rw [hr]
    rw [← ez] at ih
    rw [List.length_append, frameL_len] at ih
    rw [ih, catF_cons, List.length_append, frameL_len]
    simp only [List.cons_append, Nat.add_assoc]
theorem framesReadF_cat {fs : List (Int × List Int)} (h : ∀ f ∈ fs, rightD f) {rest : List Int} (hs : ∀ p, (frameReadL rest p).2.2 ≠ 0) : framesReadF (catF fs ++ rest) = (fs, ((catF fs).length : Int)) := by
  have hg := catF_ge fs
  obtain ⟨g, hgE⟩ : ∃ g, (catF fs ++ rest).length + 1 = fs.length + (g + 1) := ⟨(catF fs ++ rest).length - fs.length, by rw [List.length_append]; omega⟩
  unfold framesReadF
  rw [hgE]
  have e := framesGo_cat rest (g + 1) fs h []
  simp only [List.nil_append, List.length_nil, Nat.zero_add] at e
  rw [e, framesGo_stop]
  · simp
  · rw [frameReadF_in _ (by simp), List.drop_left]
    exact hs _
theorem readL_nil (p : Int) : (frameReadL [] p).2.2 ≠ 0 := by rw [frameReadL_2 p (by simp)]; simp
theorem framesReadF_all {fs : List (Int × List Int)} (h : ∀ f ∈ fs, rightD f) : framesReadF (catF fs) = (fs, ((catF fs).length : Int)) := by
  have := framesReadF_cat h (rest := []) readL_nil
  simpa using this
/-- A torn frame is not read. -/
theorem readL_short {f : Int × List Int} (hf : rightD f) {j : Nat} (hj : j < 20 + f.2.length) (p : Int) : (frameReadL ((frameL f.1 f.2).take j) p).2.2 ≠ 0 := by
  have hl : ((frameL f.1 f.2).take j).length = j := by rw [List.length_take, frameL_len]; omega
  by_cases h1 : ((frameL f.1 f.2).take j).length < 14
  · rw [frameReadL_2 p h1]; simp
  by_cases h2 : frBad ((frameL f.1 f.2).take j)
  · rw [frameReadL_3 p h1 h2]; simp
  have hn : frN ((frameL f.1 f.2).take j) = f.2.length := by
    unfold frN
    rw [List.drop_take, List.take_take, Nat.min_eq_left (by omega)]
    have e := frame_parts (D := f.2) (headF_len f.1 f.2.length) (fdig_len (crcN (headF f.1 f.2.length))) (fdig_len (crcN f.2))
    have e2 := e.2.2.2.1
    unfold frN at e2
    have e3 : frameL f.1 f.2 = headF f.1 f.2.length ++ (fdig (crcN (headF f.1 f.2.length)) ++ (fdig (crcN f.2) ++ f.2)) := by unfold frameL; simp only [List.append_assoc]
    rw [e3, e2]
    exact headF_n _ _ (by have := hf.2.2; omega)
  rw [frameReadL_4 p h1 h2 (by rw [hl, hn]; omega)]
  simp
/-- Where torn bytes end. -/
theorem torn : ∀ (fs : List (Int × List Int)), (∀ f ∈ fs, rightD f) → ∀ k : Nat, ∃ (m : Nat) (rest : List Int), m ≤ fs.length ∧ (catF fs).take k = catF (fs.take m) ++ rest ∧ (∀ p, (frameReadL rest p).2.2 ≠ 0) ∧ ∀ i, i < fs.length → ((catF (fs.take (i + 1))).length ≤ k ↔ i < m)
  | [], _, k => ⟨0, [], Nat.le_refl _, by simp [catF], readL_nil, fun i hi => absurd hi (by simp)⟩
  | f :: fs, h, k => by
    have hf := h f (by simp)
    by_cases hk : k < 20 + f.2.length
    · refine ⟨0, (frameL f.1 f.2).take k, Nat.zero_le _, ?_, readL_short hf hk, fun i _ => ?_⟩
      · rw [catF_cons, List.take_append_of_le_length (by rw [frameL_len]; omega)]; simp [catF]
      · rw [List.take_succ_cons, catF_cons, List.length_append, frameL_len]; omega
    · obtain ⟨m, rest, hm, e, hr, hi⟩ := torn fs (fun x hx => h x (by simp [hx])) (k - (20 + f.2.length))
      refine ⟨m + 1, rest, by rw [List.length_cons]; omega, ?_, hr, fun i hil => ?_⟩
      · rw [List.take_succ_cons, catF_cons, catF_cons, List.take_append, List.take_of_length_le (by rw [frameL_len]; omega), frameL_len, e, List.append_assoc]
      · rw [List.take_succ_cons, catF_cons, List.length_append, frameL_len]
        cases i with
        | zero => simp [catF]; omega
        | succ i =>
          have := hi i (by rw [List.length_cons] at hil; omega)
          omega
theorem catF_split (fs : List (Int × List Int)) (i : Nat) (hi : i < fs.length) : catF fs = catF (fs.take i) ++ (frameL fs[i].1 fs[i].2 ++ catF (fs.drop (i + 1))) := by
  rw [← catF_cons, List.getElem_cons_drop]
  unfold catF
  rw [← List.flatMap_append, List.take_append_drop]
/-- With a byte turned in frame i just those ahead are read. -/
theorem framesReadF_bent {fs : List (Int × List Int)} (h : ∀ f ∈ fs, rightD f) {i : Nat} (hi : i < fs.length) {j : Nat} (hj : j < 20 + fs[i].2.length) {z : Int} (hz : In8 z) (hne : (catF fs).getD ((catF (fs.take i)).length + j) 0 ≠ z) :
    framesReadF ((catF fs).set ((catF (fs.take i)).length + j) z) = (fs.take i, ((catF (fs.take i)).length : Int)) := by
  have e := catF_split fs i hi
  have hg : (frameL fs[i].1 fs[i].2).getD j 0 ≠ z := by
    intro hh
    apply hne
    rw [e, ← hh]
    simp only [List.getD, List.getElem?_append]
    rw [if_neg (by omega), if_pos (by rw [frameL_len]; omega)]
    congr 2
    omega
  have e2 : (catF fs).set ((catF (fs.take i)).length + j) z = catF (fs.take i) ++ ((frameL fs[i].1 fs[i].2).set j z ++ catF (fs.drop (i + 1))) := by
    rw [e, List.set_append_right _ _ (by omega), Nat.add_sub_cancel_left, List.set_append_left _ _ (by rw [frameL_len]; omega)]
  rw [e2]
  exact framesReadF_cat (fun f hf => h f (List.mem_of_mem_take hf)) (fun p => readL_bent (h _ (List.getElem_mem hi)) _ p hj hz hg)
theorem catF_len9 : ∀ fs : List (Int × List Int), (∀ f ∈ fs, rightD f) → (catF fs).length ≤ 29 * fs.length
  | [], _ => Nat.le_refl _
  | f :: fs, h => by
    have := catF_len9 fs (fun x hx => h x (by simp [hx]))
    have := (h f (by simp)).2.2
    rw [catF_cons, List.length_append, frameL_len, List.length_cons]; omega
end Go.Proofs.Ytkgalkaafocnjaa

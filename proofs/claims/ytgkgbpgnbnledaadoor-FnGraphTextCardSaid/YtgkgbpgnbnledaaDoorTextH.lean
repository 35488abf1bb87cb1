/- A graph read from a text as the reference reads it: the same. Lists of bytes; no program. -/
import Derived.Test.YtgkgbpgnbnledaaDoorTextG
namespace Go.Proofs.YtgkgbpgnbnledaaDoor
open Go.Lib
def numsGo : List (List UInt8) → List Int → List Int
  | [], acc => acc
  | w :: t, acc => if (textNumL w).2 then numsGo t (acc ++ [(textNumL w).1]) else []
/-- The numbers of a line. -/
def numsL (s : List UInt8) : List Int := numsGo (cutAt 32 s) []
theorem numsGo_len : ∀ (l : List (List UInt8)) (acc : List Int), numsGo l acc ≠ [] → (numsGo l acc).length = acc.length + l.length
  | [], _, _ => rfl
  | w :: t, acc, h => by
    unfold numsGo at h ⊢
    split
    · rename_i h1
      rw [if_pos h1] at h
      rw [numsGo_len t _ h]
      simp; omega
    · rename_i h1
      rw [if_neg h1] at h
      exact absurd rfl h
theorem numsGo_le : ∀ (l : List (List UInt8)) (acc : List Int), (numsGo l acc).length ≤ acc.length + l.length
  | [], _ => Nat.le_refl _
  | w :: t, acc => by
    unfold numsGo
    split
    · have := numsGo_le t (acc ++ [(textNumL w).1])
      simp at this ⊢
      omega
    · simp
theorem numsL_le (s : List UInt8) : (numsL s).length ≤ s.length + 1 := by
  have h1 := numsGo_le (cutAt 32 s) []
  have h2 := cutAt_len 32 s
  unfold numsL
  simp only [List.length_nil] at h1
  omega
theorem cutAt_one {s : List UInt8} {p : List UInt8} (h : cutAt 32 s = [p]) : p = s := by
  induction s generalizing p with
  | nil => simpa [cutAt] using h.symm
  | cons b l ih =>
    unfold cutAt at h
    split at h
    · exact absurd (List.cons.inj h).2 (cutAt_ne 32 l)
    · split at h
      · rename_i e
        exact absurd e (cutAt_ne 32 l)
      · rename_i q r e
        obtain ⟨rfl, rfl⟩ := List.cons.inj h
        rw [ih e]
theorem numsL_one {s : List UInt8} (h : (textNumL s).2 = true) : numsL s = [(textNumL s).1] := by
  have e : textNumL s = ((textNumL s).1, true) := by rw [← h]
  obtain ⟨u, _, hu, hs⟩ := textNumL_yes e
  have hc : cutAt 32 s = [s] := cutAt_none fun x hx => by
    rw [hs] at hx
    exact digit_ne (decDigits_digit u x hx) (by decide)
  unfold numsL
  rw [hc]
  simp [numsGo, h]
theorem numsL_not_one {s : List UInt8} (h : (textNumL s).2 = false) : (numsL s).length ≠ 1 := by
  intro hl
  have h0 : numsL s ≠ [] := fun e => by rw [e] at hl; simp at hl
  have := numsGo_len (cutAt 32 s) [] h0
  unfold numsL at hl
  rw [hl] at this
  simp only [List.length_nil, Nat.zero_add] at this
  match hc : cutAt 32 s, this with
  | [p], _ =>
    obtain rfl := cutAt_one hc
    rw [hc] at hl
    simp [numsGo, h] at hl
theorem numsL_three {s : List UInt8} (h : (numsL s).length = 3) : ∃ a b c, cutAt 32 s = [a, b, c] ∧ (textNumL a).2 = true ∧ (textNumL b).2 = true ∧ (textNumL c).2 = true ∧ numsL s = [(textNumL a).1, (textNumL b).1, (textNumL c).1] := by
  have h0 : numsL s ≠ [] := fun e => by rw [e] at h; simp at h
  have hg := numsGo_len (cutAt 32 s) [] h0
  unfold numsL at h
  rw [h] at hg
  simp only [List.length_nil, Nat.zero_add] at hg
  match hc : cutAt 32 s, hg with
  | [a, b, c], _ =>
    rw [hc] at h
    cases ha : (textNumL a).2 with
    | false => simp [numsGo, ha] at h
    | true =>
      cases hb : (textNumL b).2 with
      | false => simp [numsGo, ha, hb] at h
      | true =>
        cases hcc : (textNumL c).2 with
        | false => simp [numsGo, ha, hb, hcc] at h
        | true =>
          refine ⟨a, b, c, rfl, ha, hb, hcc, ?_⟩
          unfold numsL
          rw [hc]
          simp [numsGo, ha, hb, hcc]
theorem numsL_mem {s : List UInt8} {a b c : List UInt8} (hc : cutAt 32 s = [a, b, c]) (ha : (textNumL a).2 = true) (hb : (textNumL b).2 = true) (hcc : (textNumL c).2 = true) : numsL s = [(textNumL a).1, (textNumL b).1, (textNumL c).1] := by
  unfold numsL
  rw [hc]
  simp [numsGo, ha, hb, hcc]
/-- The reference's way with the lines behind the first. -/
def specRest (n : Int) : List (List UInt8) → List EdgeD → GraphD × Int
  | [], acc => ((n, acc), 0)
  | l :: t, acc =>
    match numsL l with
    | [a, b, c] => if n ≤ a ∨ n ≤ b ∨ 1000 < c then ((0, []), 1) else if acc.length = 400 then ((0, []), 2) else specRest n t (acc ++ [(a, b, c)])
    | _ => ((0, []), 1)
theorem specRest_eq (n : Int) : ∀ (ls : List (List UInt8)) (acc : List EdgeD), acc.length ≤ 400 → specRest n ls acc = readRest n ls acc
  | [], _, _ => rfl
  | l :: t, acc, hl => by
    unfold specRest readRest
    by_cases h3 : (numsL l).length = 3
    · obtain ⟨a, b, c, hc, ha, hb, hcc, hn⟩ := numsL_three h3
      have hre : readEdgeL l n = (((textNumL a).1, (textNumL b).1, (textNumL c).1), decide ((textNumL a).1 < n) && decide ((textNumL b).1 < n) && decide ((textNumL c).1 ≤ 1000)) := by
        unfold readEdgeL
        rw [hc]
        simp [ha, hb, hcc]
      rw [hn, hre]
      simp only
      by_cases hbad : n ≤ (textNumL a).1 ∨ n ≤ (textNumL b).1 ∨ 1000 < (textNumL c).1
      · rw [if_pos hbad, if_neg]
        simp only [Bool.and_eq_true, decide_eq_true_eq]
        omega
      · have hg : (decide ((textNumL a).1 < n) && decide ((textNumL b).1 < n) && decide ((textNumL c).1 ≤ 1000)) = true := by
          simp only [Bool.and_eq_true, decide_eq_true_eq]
          omega
        rw [if_neg hbad, if_pos hg]
        by_cases h4 : acc.length = 400
        · rw [if_pos h4, if_pos (by omega)]
        · rw [if_neg h4, if_neg (by omega)]
          exact specRest_eq n t _ (by simp; omega)
    · have hre : (readEdgeL l n).2 = false := by
        unfold readEdgeL
        split
        · rename_i a b c hc
          cases ha : (textNumL a).2 with
          | false => simp
          | true =>
            cases hb : (textNumL b).2 with
            | false => simp
            | true =>
              cases hcc : (textNumL c).2 with
              | false => simp
              | true => exact absurd (by rw [numsL_mem hc ha hb hcc]; rfl) h3
        · rfl
      rw [if_neg (by rw [hre]; decide)]
      split
      · rename_i a b c e
        rw [e] at h3
        exact absurd rfl h3
      · rfl
/-- The reference's way with a text. -/
def specReadL (s : List UInt8) : GraphD × Int :=
  if 20000 < s.length then ((0, []), 2) else
  match linesL s with
  | [] => ((0, []), 1)
  | h :: t => match numsL h with
    | [n] => if 150 < n then ((0, []), 2) else specRest n t []
    | _ => ((0, []), 1)
theorem specReadL_eq (s : List UInt8) : specReadL s = readGraphL s := by
  unfold specReadL readGraphL
  by_cases h20 : 20000 < s.length
  · rw [if_pos h20, if_pos h20]
  · rw [if_neg h20, if_neg h20]
    generalize linesL s = L
    cases L with
    | nil => rfl
    | cons h t =>
      simp only
      cases hh : (textNumL h).2 with
      | true =>
        rw [numsL_one hh]
        simp only [if_true]
        split
        · rfl
        · exact specRest_eq _ t [] (by simp)
      | false =>
        have := numsL_not_one hh
        split
        · rename_i n e
          rw [e] at this
          exact absurd rfl this
        · rfl
end Go.Proofs.YtgkgbpgnbnledaaDoor

/- The text of a graph, and a graph read from a text. Lists of bytes; no program. -/
import Derived.Test.YtgkgbpgnbnledaaDoorText
namespace Go.Proofs.YtgkgbpgnbnledaaDoor
open Go.Lib
/-- The lines of a text. -/
def linesL (s : List UInt8) : List (List UInt8) := if (cutAt 10 s).getLast? = some [] then (cutAt 10 s).dropLast else cutAt 10 s
abbrev EdgeD := Int × Int × Int
def lineL (e : EdgeD) : List UInt8 := numL e.1 ++ [32] ++ numL e.2.1 ++ [32] ++ numL e.2.2
def edgesL (es : List EdgeD) : List UInt8 := es.flatMap fun e => lineL e ++ [10]
def graphL (n : Int) (es : List EdgeD) : List UInt8 := numL n ++ [10] ++ edgesL es
theorem edgesL_snoc (es : List EdgeD) (e : EdgeD) : edgesL (es ++ [e]) = edgesL es ++ (lineL e ++ [10]) := by simp [edgesL]
theorem lineL_len (e : EdgeD) : (lineL e).length ≤ 47 := by
  have := numL_len e.1; have := numL_len e.2.1; have := numL_len e.2.2
  simp [lineL]; omega
theorem edgesL_len : ∀ es : List EdgeD, (edgesL es).length ≤ 48 * es.length
  | [] => by simp [edgesL]
  | e :: es => by
    have ih := edgesL_len es
    have := lineL_len e
    have e1 : edgesL (e :: es) = (lineL e ++ [10]) ++ edgesL es := by simp [edgesL]
    rw [e1]; simp; omega
/-- An edge read from a line. -/
def readEdgeL (s : List UInt8) (n : Int) : EdgeD × Bool :=
  match cutAt 32 s with
  | [a, b, c] => (((textNumL a).1, (textNumL b).1, (textNumL c).1), (textNumL a).2 && (textNumL b).2 && (textNumL c).2 && decide ((textNumL a).1 < n) && decide ((textNumL b).1 < n) && decide ((textNumL c).1 ≤ 1000))
  | _ => ((0, 0, 0), false)
abbrev GraphD := Int × List EdgeD
def readRest (n : Int) : List (List UInt8) → List EdgeD → GraphD × Int
  | [], acc => ((n, acc), 0)
  | l :: t, acc => if (readEdgeL l n).2 then (if 400 ≤ acc.length then ((0, []), 2) else readRest n t (acc ++ [(readEdgeL l n).1])) else ((0, []), 1)
def readGraphL (s : List UInt8) : GraphD × Int :=
  if 20000 < s.length then ((0, []), 2) else
  match linesL s with
  | [] => ((0, []), 1)
  | h :: t => if (textNumL h).2 then (if 150 < (textNumL h).1 then ((0, []), 2) else readRest (textNumL h).1 t []) else ((0, []), 1)
theorem digit_ne {c : UInt8} (h : digit c) {d : UInt8} (hd : d.toNat < 48) : c ≠ d := fun e => by
  subst e
  unfold digit at h
  omega
theorem numL_ne (n : Int) {d : UInt8} (hd : d.toNat < 48) : ∀ x ∈ numL n, x ≠ d := fun x hx => digit_ne (numL_digit n x hx) hd
theorem cutAt_line (e : EdgeD) : cutAt 32 (lineL e) = [numL e.1, numL e.2.1, numL e.2.2] := by
  unfold lineL
  rw [List.append_assoc, List.append_assoc, List.append_assoc, List.singleton_append, cutAt_hit _ (numL_ne _ (by decide)), List.singleton_append, cutAt_hit _ (numL_ne _ (by decide)), cutAt_none (numL_ne _ (by decide))]
theorem lineL_ne (e : EdgeD) : ∀ x ∈ lineL e, x ≠ 10 := by
  intro x hx
  unfold lineL at hx
  simp only [List.mem_append, List.mem_singleton] at hx
  rcases hx with (((hx | hx) | hx) | hx) | hx
  · exact numL_ne _ (by decide) x hx
  · rw [hx]; decide
  · exact numL_ne _ (by decide) x hx
  · rw [hx]; decide
  · exact numL_ne _ (by decide) x hx
theorem cutAt_edges : ∀ es : List EdgeD, cutAt 10 (edgesL es) = es.map lineL ++ [[]]
  | [] => rfl
  | e :: es => by
    have e1 : edgesL (e :: es) = lineL e ++ 10 :: edgesL es := by simp [edgesL]
    rw [e1, cutAt_hit _ (lineL_ne e), cutAt_edges es]
    rfl
theorem linesL_graph (n : Int) (es : List EdgeD) : linesL (graphL n es) = numL n :: es.map lineL := by
  have e : cutAt 10 (graphL n es) = (numL n :: es.map lineL) ++ [[]] := by
    unfold graphL
    rw [List.append_assoc, List.singleton_append, cutAt_hit _ (numL_ne _ (by decide)), cutAt_edges]
    rfl
  unfold linesL
  rw [e, if_pos (List.getLast?_concat (l := numL n :: es.map lineL)), List.dropLast_concat]
theorem textNumL_numL {n : Int} (h0 : 0 ≤ n) (h1 : n ≤ 281474976710655) : textNumL (numL n) = (n, true) := by
  obtain ⟨u, rfl⟩ := Int.eq_ofNat_of_zero_le h0
  rw [numL_nat (by omega), textNumL_num (by omega)]
/-- A right edge. -/
def rightE (n : Int) (e : EdgeD) : Prop := (0 ≤ e.1 ∧ e.1 < n) ∧ (0 ≤ e.2.1 ∧ e.2.1 < n) ∧ 0 ≤ e.2.2 ∧ e.2.2 ≤ 1000
theorem readEdgeL_line {n : Int} {e : EdgeD} (hn : n ≤ 150) (h : rightE n e) : readEdgeL (lineL e) n = (e, true) := by
  obtain ⟨⟨h0, h1⟩, ⟨h2, h3⟩, h4, h5⟩ := h
  unfold readEdgeL
  rw [cutAt_line]
  simp only
  rw [textNumL_numL h0 (by omega), textNumL_numL h2 (by omega), textNumL_numL h4 (by omega)]
  simp [h1, h3, h5]
theorem readRest_lines {n : Int} (hn : n ≤ 150) : ∀ (es acc : List EdgeD), (∀ e ∈ es, rightE n e) → acc.length + es.length ≤ 400 → readRest n (es.map lineL) acc = ((n, acc ++ es), 0)
  | [], acc, _, _ => by simp [readRest]
  | e :: es, acc, h, hl => by
    simp only [List.length_cons] at hl
    rw [List.map_cons, readRest, readEdgeL_line hn (h e (by simp))]
    simp only
    rw [if_pos trivial, if_neg (by omega), readRest_lines hn es _ (fun x hx => h x (List.mem_cons_of_mem _ hx)) (by simp; omega), List.append_assoc]
    rfl
/-- A right graph is read from its text. -/
theorem readGraphL_graph {n : Int} {es : List EdgeD} (h0 : 0 ≤ n) (hn : n ≤ 150) (h : ∀ e ∈ es, rightE n e) (hl : es.length ≤ 400) (hs : (graphL n es).length ≤ 20000) : readGraphL (graphL n es) = ((n, es), 0) := by
  unfold readGraphL
  rw [if_neg (by omega), linesL_graph]
  simp only
  rw [textNumL_numL h0 (by omega)]
  simp only
  rw [if_pos trivial, if_neg (by omega), readRest_lines hn es [] h (by simpa using hl)]
  rfl
theorem graphL_len (n : Int) (es : List EdgeD) : (graphL n es).length ≤ 16 + 48 * es.length := by
  have := numL_len n
  have := edgesL_len es
  simp [graphL]; omega
/-- The lines of a text, cut by a loop that keeps what stands behind the last newline only where it is not empty. -/
theorem linesL_fin {s : List UInt8} {out : List (List UInt8)} {u : Nat} (h : CutTo 10 s out u s.length) : linesL s = if u < s.length then out ++ [s.drop u] else out := by
  have e := h.fin
  unfold linesL
  rw [e]
  simp only [List.getLast?_append, List.getLast?_singleton, Option.some_or, Option.some.injEq, List.dropLast_concat]
  have hu := h.1
  by_cases hlt : u < s.length
  · rw [if_pos hlt, if_neg]
    intro e
    have := congrArg List.length e
    rw [List.length_drop] at this
    simp at this
    omega
  · rw [if_neg hlt, if_pos (List.drop_of_length_le (by omega))]
theorem readRest_no : ∀ (n : Int) (ls : List (List UInt8)) (acc : List EdgeD), (readRest n ls acc).2 ≠ 0 → (readRest n ls acc).1 = (0, [])
  | _, [], _, h => by simp [readRest] at h
  | n, l :: t, acc, h => by
    unfold readRest at h ⊢
    split
    · split
      · rfl
      · rename_i h1 h2
        rw [if_pos h1, if_neg h2] at h
        exact readRest_no n t _ h
    · rfl
end Go.Proofs.YtgkgbpgnbnledaaDoor

/- Rows of structs that a call has made. Nothing of the program. -/
import Derived.Test.YtoodlmhnemamhaaOwn
namespace Go.Proofs.Ytoodlmhnemamhaa
open Go.RowKit
/-- The slice value a n cap owns the structs xs, in a block from lo on and below hi. -/
structure OwnS {α : Type} (enc : α → List Value) (sz : Nat) (e : TypeId) (lo hi : Nat) (w : World) (a : Option Addr) (n cap : Nat) (xs : List α) : Prop where
  len : xs.length = n
  own : w.ownsRow lo e sz (.slice a n cap) n (xs.flatMap enc)
  lt : ∀ g, (Value.slice a n cap).ownBlock = some g → g < hi
  top : hi ≤ w.heap.size
  small : n ≤ 4611686018427387904
section
variable {α : Type} {enc : α → List Value} {sz : Nat} {e : TypeId} {lo hi : Nat} {w : World} {a : Option Addr} {n cap : Nat} {xs : List α}
theorem OwnS.rd (hs : ∀ x, (enc x).length = sz) (h : OwnS enc sz e lo hi w a n cap xs) : Rd enc sz w a n cap xs := Rd.of_own (fun x _ => hs x) h.own h.len
theorem OwnS.below {w' : World} (h : OwnS enc sz e lo hi w a n cap xs) (hb : Below w.heap.size w w') : OwnS enc sz e lo hi w' a n cap xs :=
  ⟨h.len, own_below h.own hb (Nat.le_refl _), h.lt, Nat.le_trans h.top hb.size, h.small⟩
theorem OwnS.win {w' : World} (h : OwnS enc sz e lo hi w a n cap xs) {lo' hi' : Nat} (hw : Win lo' hi' w w') (hd : hi' ≤ lo ∨ hi ≤ lo') : OwnS enc sz e lo hi w' a n cap xs :=
  ⟨h.len, own_win h.own hw (fun g hg => by have h1 := (World.ownsRow.lt h.own g hg).1; have h2 := h.lt g hg; omega), h.lt, Nat.le_trans h.top hw.size, h.small⟩
theorem OwnS.of {B : Nat} (h : w.ownsRow B e sz (.slice a n cap) n (xs.flatMap enc)) (hz : xs.length = n) (hs : n ≤ 4611686018427387904) : OwnS enc sz e B w.heap.size w a n cap xs :=
  ⟨hz, h, fun g hg => (World.ownsRow.lt h g hg).2, Nat.le_refl _, hs⟩
theorem OwnS.lo_le (h : OwnS enc sz e lo hi w a n cap xs) {lo' : Nat} (hl : lo' ≤ lo) : OwnS enc sz e lo' hi w a n cap xs :=
  ⟨h.len, own_base h.own hl, h.lt, h.top, h.small⟩
theorem OwnS.grow (h : OwnS enc sz e lo hi w a n cap xs) {hi' : Nat} (hl : hi ≤ hi') (ht : hi' ≤ w.heap.size) : OwnS enc sz e lo hi' w a n cap xs :=
  ⟨h.len, h.own, fun g hg => Nat.lt_of_lt_of_le (h.lt g hg) hl, ht, h.small⟩
end
/-- After k of n copies: k of xs, then z. -/
def cpyS {α : Type} (z : α) (xs : List α) (k : Nat) : List α := xs.take k ++ List.replicate (xs.length - k) z
theorem cpyS_all {α : Type} (z : α) (xs : List α) : cpyS z xs xs.length = xs := by simp [cpyS]
theorem cpyS_len {α : Type} (z : α) (xs : List α) (k : Nat) (h : k ≤ xs.length) : (cpyS z xs k).length = xs.length := by simp [cpyS]; omega
theorem cpyS_set {α : Type} (z : α) (xs : List α) (k : Nat) (h : k < xs.length) : (cpyS z xs k).set k xs[k] = cpyS z xs (k + 1) := by
  unfold cpyS
  rw [List.set_append_right _ _ (by simp; omega)]
  have e : xs.length - k = (xs.length - (k + 1)) + 1 := by omega
  rw [e, List.replicate_succ]
  have e2 : k - (xs.take k).length = 0 := by rw [List.length_take]; omega
  rw [e2, List.set_cons_zero, List.take_succ_eq_append_getElem h, List.append_assoc]
  rfl
/-- Setting the cells of one struct. -/
def setsL (l : List Value) (j : Nat) : List Value → List Value
  | [] => l
  | c :: r => setsL (l.set j c) (j + 1) r
theorem setsL_app (A : List Value) (B : List Value) : ∀ (cs l : List Value) (j : Nat), cs.length = l.length → j = A.length → setsL (A ++ l ++ B) j cs = A ++ cs ++ B := by
  intro cs
  induction cs generalizing A with
  | nil => intro l j h hj; simp at h; have : l = [] := List.eq_nil_of_length_eq_zero h.symm; subst this; rfl
  | cons c r ih =>
    intro l j h hj
    cases l with
    | nil => simp at h
    | cons x l =>
      have e : (A ++ x :: l ++ B).set j c = (A ++ [c]) ++ l ++ B := by
        subst hj
        rw [List.append_assoc, List.set_append_right _ _ (Nat.le_refl _)]
        simp
      show setsL ((A ++ x :: l ++ B).set j c) (j + 1) r = _
      rw [e, ih (A ++ [c]) l (j + 1) (by simpa using h) (by simp [hj])]
      simp
theorem flat_set {α : Type} (enc : α → List Value) (sz : Nat) (hs : ∀ x, (enc x).length = sz) (xs : List α) (k : Nat) (h : k < xs.length) (y : α) : setsL (xs.flatMap enc) (k * sz) (enc y) = (xs.set k y).flatMap enc := by
  have hlen : ∀ l : List α, (l.flatMap enc).length = l.length * sz := by
    intro l
    induction l with
    | nil => simp
    | cons a r ih => rw [List.flatMap_cons, List.length_append, hs, ih, List.length_cons, Nat.succ_mul]; omega
  have e1 : xs = xs.take k ++ xs[k] :: xs.drop (k + 1) := by rw [← List.drop_eq_getElem_cons h, List.take_append_drop]
  have e2 : xs.set k y = xs.take k ++ y :: xs.drop (k + 1) := by
    have hk : (xs.take k).length = k := by rw [List.length_take]; omega
    have e3 : (xs.take k ++ xs[k] :: xs.drop (k + 1)).set k y = xs.take k ++ y :: xs.drop (k + 1) := by
      rw [List.set_append_right _ _ (by omega), hk, Nat.sub_self, List.set_cons_zero]
    rw [← e1] at e3
    exact e3
  rw [e2]
  have e4 : xs.flatMap enc = (xs.take k).flatMap enc ++ enc xs[k] ++ (xs.drop (k + 1)).flatMap enc := by
    rw [List.append_assoc, ← List.flatMap_cons, ← List.flatMap_append, ← e1]
  rw [e4, setsL_app _ _ _ _ _ (by rw [hs, hs]) (by rw [hlen, List.length_take]; congr 1; omega), List.flatMap_append, List.flatMap_cons, List.append_assoc]
theorem rep_flat {α : Type} (enc : α → List Value) (z : α) : ∀ n j, j < n * (enc z).length → ((List.replicate n z).flatMap enc)[j]? = (enc z)[j % (enc z).length]? := by
  intro n
  induction n with
  | zero => intro j h; simp at h
  | succ n ih =>
    intro j h
    rw [List.replicate_succ, List.flatMap_cons]
    by_cases hj : j < (enc z).length
    · rw [List.getElem?_append_left hj, Nat.mod_eq_of_lt hj]
    · rw [List.getElem?_append_right (by omega), ih _ (by rw [Nat.succ_mul] at h; omega), ← Nat.mod_eq_sub_mod (by omega)]
theorem made_flat {α : Type} (enc : α → List Value) (z : α) (hl : 0 < (enc z).length) (n sz : Nat) (hs : (enc z).length = sz) : (madeCells (enc z).toArray (n * sz)).toList = (List.replicate n z).flatMap enc := by
  have hlen : ∀ n, ((List.replicate n z).flatMap enc).length = n * (enc z).length := by
    intro n
    induction n with
    | zero => simp
    | succ n ih => rw [List.replicate_succ, List.flatMap_cons, List.length_append, ih, Nat.succ_mul]; omega
  subst hs
  apply List.ext_getElem?
  intro j
  by_cases hj : j < n * (enc z).length
  · rw [rep_flat enc z n j hj]
    have hm : j % (enc z).length < (enc z).length := Nat.mod_lt _ hl
    simp [madeCells, hj, hm]
  · rw [List.getElem?_eq_none (by rw [Array.length_toList, size_madeCells]; omega), List.getElem?_eq_none (by rw [hlen]; omega)]
end Go.Proofs.Ytoodlmhnemamhaa

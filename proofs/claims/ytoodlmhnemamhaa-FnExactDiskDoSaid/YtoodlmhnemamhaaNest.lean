/- Rows of structs that hold a row each, owned by a call: outer and inner blocks, all apart. Nothing of the program. -/
import Derived.Test.YtoodlmhnemamhaaRow
namespace Go.Proofs.Ytoodlmhnemamhaa
open Go.RowKit
/-- The block of a slice, if it has one. -/
def blkR {α : Type} (r : Row α) : Option Nat := (Value.slice r.a r.n r.c).ownBlock
theorem own_keep {w w' : World} {b : Nat} {e : TypeId} {sz : Nat} {v : Value} {n : Nat} {xs : List Value} (h : w.ownsRow b e sz v n xs) (hd : ∀ g, v.ownBlock = some g → w'.heap[g]? = w.heap[g]?) : w'.ownsRow b e sz v n xs := by
  refine ⟨h.1, ?_⟩
  rcases h.2 with hn | ⟨g, cap, cur, hv, hgb, hh, r⟩
  · exact Or.inl hn
  · exact Or.inr ⟨g, cap, cur, hv, hgb, by rw [hd g (by rw [hv]; rfl)]; exact hh, r⟩
theorem OwnS.keep {α : Type} {enc : α → List Value} {sz : Nat} {e : TypeId} {lo hi hi' : Nat} {w w' : World} {a : Option Addr} {n cap : Nat} {xs : List α} (h : OwnS enc sz e lo hi w a n cap xs) (hd : ∀ g, (Value.slice a n cap).ownBlock = some g → w'.heap[g]? = w.heap[g]?) (hh : hi ≤ hi') (ht : hi' ≤ w'.heap.size) : OwnS enc sz e lo hi' w' a n cap xs :=
  ⟨h.len, own_keep h.own hd, fun g hg => Nat.lt_of_lt_of_le (h.lt g hg) hh, ht, h.small⟩
theorem own_rebase {w : World} {b b' : Nat} {e : TypeId} {sz : Nat} {v : Value} {n : Nat} {xs : List Value} (h : w.ownsRow b e sz v n xs) (hb : ∀ g, v.ownBlock = some g → b' ≤ g) : w.ownsRow b' e sz v n xs := by
  refine ⟨h.1, ?_⟩
  rcases h.2 with hn | ⟨g, cap, cur, hv, hg, r⟩
  · exact Or.inl hn
  · exact Or.inr ⟨g, cap, cur, hv, hb g (by rw [hv]; rfl), r⟩
/-- The least interval that holds it. -/
theorem OwnS.tight {α : Type} {enc : α → List Value} {sz : Nat} {e : TypeId} {lo hi : Nat} {w : World} {a : Option Addr} {n cap : Nat} {xs : List α} (h : OwnS enc sz e lo hi w a n cap xs) :
    ∃ l u, OwnS enc sz e l u w a n cap xs ∧ ∀ k, l ≤ k → k < u → (Value.slice a n cap).ownBlock = some k := by
  cases ho : (Value.slice a n cap).ownBlock with
  | none => exact ⟨0, 0, ⟨h.len, own_rebase h.own (fun g hg => by rw [ho] at hg; cases hg), (fun g hg => by rw [ho] at hg; cases hg), Nat.zero_le _, h.small⟩, fun k _ h2 => by omega⟩
  | some g =>
    refine ⟨g, g + 1, ⟨h.len, own_rebase h.own (fun g' hg => by rw [ho] at hg; cases hg; exact Nat.le_refl _), (fun g' hg => by rw [ho] at hg; cases hg; omega), ?_, h.small⟩, fun k h1 h2 => by rw [show k = g from by omega]⟩
    have h1 := h.lt g ho
    have h2 := h.top
    omega
section
variable {α β : Type}
structure OwnN (encB : β → List Value) (szB : Nat) (eB : TypeId) (encE : α → List Value) (szE : Nat) (eE : TypeId) (sl : β → Row α) (lo hi : Nat) (w : World) (y : Row β) : Prop where
  row : OwnS encB szB eB lo hi w y.a y.n y.c y.l
  inner : ∀ i (h : i < y.l.length), OwnS encE szE eE lo hi w (sl y.l[i]).a (sl y.l[i]).n (sl y.l[i]).c (sl y.l[i]).l
  apart : ∀ i (h : i < y.l.length) g, blkR (sl y.l[i]) = some g → blkR y ≠ some g
  dist : ∀ i i' (h : i < y.l.length) (h' : i' < y.l.length), i ≠ i' → ∀ g, blkR (sl y.l[i]) = some g → blkR (sl y.l[i']) ≠ some g
variable {encB : β → List Value} {szB : Nat} {eB : TypeId} {encE : α → List Value} {szE : Nat} {eE : TypeId} {sl : β → Row α} {lo hi : Nat} {w w' : World} {y : Row β}
theorem OwnN.below (h : OwnN encB szB eB encE szE eE sl lo hi w y) (hb : Below w.heap.size w w') : OwnN encB szB eB encE szE eE sl lo hi w' y :=
  ⟨h.row.below hb, fun i hi => (h.inner i hi).below hb, h.apart, h.dist⟩
theorem OwnN.win (h : OwnN encB szB eB encE szE eE sl lo hi w y) {lo' hi' : Nat} (hw : Win lo' hi' w w') (hd : hi' ≤ lo ∨ hi ≤ lo') : OwnN encB szB eB encE szE eE sl lo hi w' y :=
  ⟨h.row.win hw hd, fun i hi => (h.inner i hi).win hw hd, h.apart, h.dist⟩
theorem OwnN.lo_le (h : OwnN encB szB eB encE szE eE sl lo hi w y) {lo' : Nat} (hl : lo' ≤ lo) : OwnN encB szB eB encE szE eE sl lo' hi w y :=
  ⟨h.row.lo_le hl, fun i hi => (h.inner i hi).lo_le hl, h.apart, h.dist⟩
theorem OwnN.grow (h : OwnN encB szB eB encE szE eE sl lo hi w y) {hi' : Nat} (hl : hi ≤ hi') (ht : hi' ≤ w.heap.size) : OwnN encB szB eB encE szE eE sl lo hi' w y :=
  ⟨h.row.grow hl ht, fun i hi => (h.inner i hi).grow hl ht, h.apart, h.dist⟩
/-- Readable: the outer row and each inner one. -/
def RdN (encB : β → List Value) (szB : Nat) (encE : α → List Value) (szE : Nat) (sl : β → Row α) (w : World) (y : Row β) : Prop :=
  Rd encB szB w y.a y.n y.c y.l ∧ ∀ x ∈ y.l, Rd encE szE w (sl x).a (sl x).n (sl x).c (sl x).l
theorem RdN.below (h : RdN encB szB encE szE sl w y) {B : Nat} (hb : Below B w w') (hB : w.heap.size ≤ B) : RdN encB szB encE szE sl w' y :=
  ⟨h.1.below hb hB, fun x hx => (h.2 x hx).below hb hB⟩
theorem OwnN.rd (hsB : ∀ x, (encB x).length = szB) (hsE : ∀ x, (encE x).length = szE) (h : OwnN encB szB eB encE szE eE sl lo hi w y) : RdN encB szB encE szE sl w y :=
  ⟨h.row.rd hsB, fun x hx => by obtain ⟨i, hi, rfl⟩ := List.getElem_of_mem hx; exact (h.inner i hi).rd hsE⟩
/-- One element is written anew: only the outer block and the element's own inner block are touched; its inner block is the old one, or new. -/
theorem OwnN.put {hi' : Nat} (h : OwnN encB szB eB encE szE eE sl lo hi w y) (j : Nat) (hj : j < y.l.length) (x' : β)
    (hrow : OwnS encB szB eB lo hi' w' y.a y.n y.c (y.l.set j x')) (hin : OwnS encE szE eE lo hi' w' (sl x').a (sl x').n (sl x').c (sl x').l)
    (hblk : ∀ g, blkR (sl x') = some g → blkR (sl y.l[j]) = some g ∨ w.heap.size ≤ g)
    (hch : ∀ k, k < w.heap.size → blkR y ≠ some k → blkR (sl y.l[j]) ≠ some k → w'.heap[k]? = w.heap[k]?)
    (hhi : hi ≤ hi') (hit : hi' ≤ w'.heap.size) : OwnN encB szB eB encE szE eE sl lo hi' w' ⟨y.a, y.n, y.c, y.l.set j x'⟩ := by
  have lt_of : ∀ i (hi0 : i < y.l.length) g, blkR (sl y.l[i]) = some g → g < w.heap.size := fun i hi0 g hg => by
    have h1 := (h.inner i hi0).lt g hg; have h2 := (h.inner i hi0).top; omega
  have lt_out : ∀ g, blkR y = some g → g < w.heap.size := fun g hg => by
    have h1 := h.row.lt g hg; have h2 := h.row.top; omega
  refine ⟨hrow, ?_, ?_, ?_⟩
  · intro i hi0
    have hi1 : i < y.l.length := by simpa using hi0
    simp only [List.getElem_set]
    split
    · exact hin
    · rename_i hne
      refine (h.inner i hi1).keep (fun g hg => hch g (lt_of i hi1 g hg) (h.apart i hi1 g hg) (h.dist i j hi1 hj (fun e => hne e.symm) g hg)) hhi hit
  · intro i hi0 g
    have hi1 : i < y.l.length := by simpa using hi0
    simp only [List.getElem_set]
    split
    · intro hg hy
      have hy' : blkR y = some g := hy
      rcases hblk g hg with h1 | h1
      · exact h.apart j hj g h1 hy'
      · have := lt_out g hy'; omega
    · exact h.apart i hi1 g
  · intro i i' hi0 hi0' hne g
    have hi1 : i < y.l.length := by simpa using hi0
    have hi1' : i' < y.l.length := by simpa using hi0'
    simp only [List.getElem_set]
    by_cases c1 : j = i
    · subst c1
      rw [if_pos rfl, if_neg hne]
      intro hg hg'
      rcases hblk g hg with h1 | h1
      · exact h.dist j i' hi1 hi1' hne g h1 hg'
      · have := lt_of i' hi1' g hg'; omega
    · rw [if_neg c1]
      by_cases c2 : j = i'
      · subst c2
        rw [if_pos rfl]
        intro hg hg'
        rcases hblk g hg' with h1 | h1
        · exact h.dist i j hi1 hi1' hne g hg h1
        · have := lt_of i hi1 g hg; omega
      · rw [if_neg c2]
        exact h.dist i i' hi1 hi1' hne g
end
end Go.Proofs.Ytoodlmhnemamhaa

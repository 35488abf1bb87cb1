/- Rows of structs with a row each: one scalar field written; one inner row written. Nothing of the program. -/
import Derived.Test.YtoodlmhnemamhaaNest
namespace Go.Proofs.Ytoodlmhnemamhaa
open Go.RowKit
section
variable {α β : Type} {encB : β → List Value} {szB : Nat} {eB : TypeId} {encE : α → List Value} {szE : Nat} {eE : TypeId} {sl : β → Row α} {lo hi : Nat} {w w' : World}
theorem flat_set1 (hs : ∀ x, (encB x).length = szB) : ∀ (xs : List β) (k : Nat) (hk : k < xs.length) (f : Nat) (_hf : f < szB) (v : Value) (y : β), encB y = (encB xs[k]).set f v → (xs.flatMap encB).set (k * szB + f) v = (xs.set k y).flatMap encB := by
  intro xs
  induction xs with
  | nil => intro k hk; exact absurd hk (by simp)
  | cons x r ih =>
    intro k hk f hf v y hy
    rw [List.flatMap_cons]
    cases k with
    | zero =>
      rw [List.set_append_left _ _ (by rw [hs]; omega), List.set_cons_zero, List.flatMap_cons, hy]
      simp
    | succ k =>
      rw [List.set_append_right _ _ (by rw [hs, Nat.succ_mul]; omega), hs, show (k + 1) * szB + f - szB = k * szB + f from by rw [Nat.succ_mul]; omega, List.set_cons_succ, List.flatMap_cons, ih k (by simpa using hk) f hf v y (by simpa using hy)]
theorem flat_same : ∀ (xs : List β) (k : Nat) (hk : k < xs.length) (y : β), encB y = encB xs[k] → (xs.set k y).flatMap encB = xs.flatMap encB := by
  intro xs
  induction xs with
  | nil => intro k hk; exact absurd hk (by simp)
  | cons x r ih =>
    intro k hk y hy
    cases k with
    | zero => rw [List.set_cons_zero, List.flatMap_cons, List.flatMap_cons]; simp only [List.getElem_cons_zero] at hy; rw [hy]
    | succ k => rw [List.set_cons_succ, List.flatMap_cons, List.flatMap_cons, ih k (by simpa using hk) y (by simpa using hy)]
theorem OwnN.scalar {g n c : Nat} {es : List β} (h : OwnN encB szB eB encE szE eE sl lo hi w ⟨some ⟨g, 0, none⟩, n, c, es⟩) (hsz : ∀ x, (encB x).length = szB) (j : Nat) (hj : j < es.length) (i : Nat) (hi0 : i < szB) (v : Value) (x' : β) (hx : encB x' = (encB es[j]).set i v) (hs : sl x' = sl es[j]) :
    OwnN encB szB eB encE szE eE sl lo hi (w.setCell ⟨g, j * szB + i, none⟩ v) ⟨some ⟨g, 0, none⟩, n, c, es.set j x'⟩ := by
  have hst := (h.row.own.stored (j * szB + i) v).1
  simp only at hst
  rw [flat_set1 hsz es j hj i hi0 v x' hx] at hst
  have hi1 := h.inner j hj
  refine h.put j hj x' ⟨by rw [List.length_set]; exact h.row.len, hst, h.row.lt, by simpa using h.row.top, h.row.small⟩ ?_ ?_ ?_ (Nat.le_refl _) (by simpa using h.row.top)
  · rw [hs]
    exact hi1.keep (fun q hq => Below.heap_setCell _ _ _ _ (fun e => h.apart j hj q hq (by rw [e]; rfl))) (Nat.le_refl _) (by simpa using h.row.top)
  · intro q hq
    rw [hs] at hq
    exact Or.inl hq
  · intro q hq hne _
    exact Below.heap_setCell _ _ _ _ (fun e => hne (by rw [e]; rfl))
theorem OwnN.mid {g n c l u : Nat} {es : List β} {L : List α} (h : OwnN encB szB eB encE szE eE sl lo hi w ⟨some ⟨g, 0, none⟩, n, c, es⟩) (j : Nat) (hj : j < es.length) (hlu : ∀ q, l ≤ q → q < u → blkR (sl es[j]) = some q)
    (ho : OwnS encE szE eE l u w' (sl es[j]).a (sl es[j]).n (sl es[j]).c L) (hw : Win l u w w') (x' : β) (hx : encB x' = encB es[j]) (hs : sl x' = ⟨(sl es[j]).a, (sl es[j]).n, (sl es[j]).c, L⟩) :
    OwnN encB szB eB encE szE eE sl lo hi w' ⟨some ⟨g, 0, none⟩, n, c, es.set j x'⟩ ∧ Win lo hi w w' := by
  have h3 := h.inner j hj
  have hgl := h.row.lt g rfl
  have hgt := h.row.top
  have hglu : g < l ∨ u ≤ g := by
    by_cases c1 : l ≤ g ∧ g < u
    · exact absurd (show blkR (⟨some ⟨g, 0, none⟩, n, c, es⟩ : Row β) = some g from rfl) (h.apart j hj g (hlu g c1.1 c1.2))
    · omega
  refine ⟨h.put j hj x' ⟨by rw [List.length_set]; exact h.row.len, ?_, h.row.lt, Nat.le_trans h.row.top hw.size, h.row.small⟩ ?_ ?_ ?_ (Nat.le_refl _) (Nat.le_trans h.row.top hw.size), ⟨hw.os, hw.tape, hw.output, hw.size, fun q hq hqq => hw.block q hq ?_⟩⟩
  · have e1 := flat_same es j hj x' hx
    show w'.ownsRow lo eB szB (.slice (some ⟨g, 0, none⟩) n c) n ((es.set j x').flatMap encB)
    rw [e1]
    exact own_keep h.row.own (fun q hq => by cases hq; exact hw.block g (by omega) hglu)
  · rw [hs]
    exact ⟨ho.len, own_rebase ho.own (fun q hq => (World.ownsRow.lt h3.own q hq).1), h3.lt, Nat.le_trans h3.top hw.size, ho.small⟩
  · intro q hq
    rw [hs] at hq
    exact Or.inl hq
  · intro q hq _ hne2
    refine hw.block q hq ?_
    by_cases c1 : l ≤ q ∧ q < u
    · exact absurd (hlu q c1.1 c1.2) hne2
    · omega
  · by_cases c1 : l ≤ q ∧ q < u
    · have hbq := hlu q c1.1 c1.2
      have e1 := h3.lt q hbq
      have e2 := (World.ownsRow.lt h3.own q hbq).1
      omega
    · omega
end
end Go.Proofs.Ytoodlmhnemamhaa

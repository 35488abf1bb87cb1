/- append onto an owned row, with its block known: the old one, or a new one; rows of structs that grow by append. Nothing of the program. -/
import Derived.Test.YtoodlmhnemamhaaNest
import Derived.Test.YtoodlmhnemamhaaApp
import Derived.ArgAppend
import Derived.OwnWalk
namespace Go.Proofs.Ytoodlmhnemamhaa
open Go.RowKit
theorem grown_none {w w' : World} {row : Option Nat} (h : w.grownBy w' none) : w.grownBy w' row := ⟨h.os, h.tape, h.output, h.size, fun k hk _ => h.block k hk (by simp)⟩
theorem app_two {P : Program} {w : World} {ops : Array Oper} {rest : List Oper} {o : Oper} {a : Act} {Q : Exit → Act → World → Prop} (hgd : o.guard = none) (s x : Operand) (t : TypeId)
    (ho : o.op = .call { callee := .builtin .append, args := #[s, x], argTypes := #[t, t] })
    (base : Nat) (e : TypeId) {i : TypeInfo} {z : Value} {size bytes : Nat} (ht : P.underlying t = some (.slice e)) (hi : P.info? e = some i) (hz : i.zero = some z)
    (hsize : i.size = size) (hby : i.bytes = bytes) (hzs : z.cells.size = size) (hsz : 0 < size)
    (A : Option Addr) (n C : Nat) (xs : List Value) (hs : a.eval s = .slice A n C) (hown : w.ownsRow base e size (.slice A n C) n xs)
    (ad : Addr) (m c : Nat) (news : List Value) (hx : a.eval x = .slice (some ad) m c) (hl : news.length = m * size) (hnews : ∀ (j : Nat) (u : Value), news[j]? = some u → w.cell? (ad.add j) = some u)
    (h1 : ∀ u ∈ news, u.oneCell' = true) (hm : 0 < m)
    (h63 : n + m ≤ maxLen) (hbytes : (n + m) * bytes ≤ 140737488355328) (hbase : base ≤ w.heap.size)
    (h : ∀ (A' : Option Addr) (C' : Nat) (w' : World), w'.ownsRow base e size (.slice A' (n + m) C') (n + m) (xs ++ news) → w.grownBy w' (Value.slice A n C).ownBlock →
      ((Value.slice A' (n + m) C').ownBlock = (Value.slice A n C).ownBlock ∨ ∀ g, (Value.slice A' (n + m) C').ownBlock = some g → w.heap.size ≤ g) → wpList P ops Q rest (a.put o.dst (.slice A' (n + m) C')) w') : wpList P ops Q (o :: rest) a w := by
  by_cases hfit : n + m ≤ C
  · rcases hown.2 with ⟨hv, h0⟩ | ⟨g, cap', cur, hv, hr⟩
    · cases hv; omega
    · cases hv
      refine wpList_append_fits w hgd s x t ho base e i size ht hi hsize g n C xs hs hown ad m c news hx hl hnews h1 hfit ?_
      intro w' ho' hg
      exact h _ _ w' ho' hg (Or.inl rfl)
  · have hnone : A = none → n = 0 ∧ C = 0 := fun hA => by
      subst hA
      rcases hown.2 with ⟨hv, h0⟩ | ⟨g, cap', cur, hv, hr⟩
      · cases hv; exact ⟨rfl, rfl⟩
      · cases hv
    have holds : ∀ b, A = some b → ∀ j u, xs[j]? = some u → w.cell? (b.add j) = some u := by
      intro b hb j u hu
      rcases hown.2 with ⟨hv, h0⟩ | ⟨g, cap', cur, hv, hr⟩
      · cases hv; cases hb
      · cases hv
        cases hb
        have hj : j < xs.length := (List.getElem?_eq_some_iff.1 hu).1
        rw [Addr.add_lit, show 0 + j = j from by omega, hown.cellAt j (by rw [← hown.1]; exact hj)]
        exact hu
    refine wpList_append_grows w hgd s x t ho e i z size bytes ht hi hz hsize hby hzs hsz A n C xs hs hnone hown.1 holds ad m c news hx hl hnews h1 (by omega) h63 hbytes ?_
    intro v' w' ho' hg
    obtain ⟨A', C', rfl, _⟩ := own_shape ho'
    exact h A' C' w' (own_base ho' hbase) (grown_none hg) (Or.inr (fun g hgg => (World.ownsRow.lt ho' g hgg).1))
section
variable {α β : Type} {encB : β → List Value} {szB : Nat} {eB : TypeId} {encE : α → List Value} {szE : Nat} {eE : TypeId} {sl : β → Row α} {lo hi : Nat} {w w' : World} {y : Row β}
/-- One element more: its inner row is apart from all others. -/
theorem OwnN.snoc {hi' : Nat} (h : OwnN encB szB eB encE szE eE sl lo hi w y) (x' : β) (A' : Option Addr) (C' : Nat)
    (hrow : OwnS encB szB eB lo hi' w' A' (y.n + 1) C' (y.l ++ [x'])) (hin : OwnS encE szE eE lo hi w (sl x').a (sl x').n (sl x').c (sl x').l)
    (hg : w.grownBy w' (blkR y)) (hnew : (Value.slice A' (y.n + 1) C').ownBlock = blkR y ∨ ∀ g, (Value.slice A' (y.n + 1) C').ownBlock = some g → w.heap.size ≤ g)
    (hap : ∀ g, blkR (sl x') = some g → blkR y ≠ some g) (hd : ∀ i (hi0 : i < y.l.length) g, blkR (sl y.l[i]) = some g → blkR (sl x') ≠ some g)
    (hhi : hi ≤ hi') (hit : hi' ≤ w'.heap.size) : OwnN encB szB eB encE szE eE sl lo hi' w' ⟨A', y.n + 1, C', y.l ++ [x']⟩ := by
  have get : ∀ i (hi0 : i < (y.l ++ [x']).length), (∃ h1 : i < y.l.length, (y.l ++ [x'])[i] = y.l[i]) ∨ (i = y.l.length ∧ (y.l ++ [x'])[i] = x') := by
    intro i hi0
    by_cases h1 : i < y.l.length
    · exact Or.inl ⟨h1, List.getElem_append_left h1⟩
    · have e : i = y.l.length := by simp at hi0; omega
      subst e
      exact Or.inr ⟨rfl, by simp⟩
  have lt_of : ∀ i (hi0 : i < y.l.length) g, blkR (sl y.l[i]) = some g → g < w.heap.size := fun i hi0 g hgg => by
    have h1 := (h.inner i hi0).lt g hgg; have h2 := (h.inner i hi0).top; omega
  have lt_x : ∀ g, blkR (sl x') = some g → g < w.heap.size := fun g hgg => by
    have h1 := hin.lt g hgg; have h2 := hin.top; omega
  have napart : ∀ g, g < w.heap.size → blkR y ≠ some g → (Value.slice A' (y.n + 1) C').ownBlock ≠ some g := by
    intro g hl hne e
    rcases hnew with h1 | h1
    · rw [h1] at e; exact hne e
    · have := h1 g e; omega
  refine ⟨hrow, ?_, ?_, ?_⟩
  · intro i hi0
    rcases get i hi0 with ⟨h1, e⟩ | ⟨_, e⟩
    · simp only [e]
      exact (h.inner i h1).keep (fun g hgg => hg.block g (lt_of i h1 g hgg) (fun e2 => h.apart i h1 g hgg e2.symm)) hhi hit
    · simp only [e]
      exact hin.keep (fun g hgg => hg.block g (lt_x g hgg) (fun e2 => hap g hgg e2.symm)) hhi hit
  · intro i hi0 g
    rcases get i hi0 with ⟨h1, e⟩ | ⟨_, e⟩
    · simp only [e]
      intro hgg
      exact napart g (lt_of i h1 g hgg) (h.apart i h1 g hgg)
    · simp only [e]
      intro hgg
      exact napart g (lt_x g hgg) (hap g hgg)
  · intro i i' hi0 hi0' hne g
    rcases get i hi0 with ⟨h1, e⟩ | ⟨h1, e⟩ <;> rcases get i' hi0' with ⟨h1', e'⟩ | ⟨h1', e'⟩
    · simp only [e, e']; exact h.dist i i' h1 h1' hne g
    · simp only [e, e']; exact hd i h1 g
    · simp only [e, e']
      intro hgg hgg'
      exact hd i' h1' g hgg' hgg
    · omega
theorem OwnN.nil (encB : β → List Value) (szB : Nat) (eB : TypeId) (encE : α → List Value) (szE : Nat) (eE : TypeId) (sl : β → Row α) (lo : Nat) (w : World) : OwnN encB szB eB encE szE eE sl lo w.heap.size w ⟨none, 0, 0, []⟩ :=
  ⟨⟨rfl, World.ownsRow_nil _ _ _ _, fun g hg => by simp [Value.ownBlock] at hg, Nat.le_refl _, Nat.zero_le _⟩, fun i hi => absurd hi (by simp), fun i hi => absurd hi (by simp), fun i i' hi => absurd hi (by simp)⟩
end
end Go.Proofs.Ytoodlmhnemamhaa

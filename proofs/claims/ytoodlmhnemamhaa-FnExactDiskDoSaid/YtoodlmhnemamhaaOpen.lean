/- From the form's reading of an argument (DataW.trod) to what a walk is told: integers, strings, slices of whatever element, structs of one-cell fields. Nothing of the program. -/
import Derived.Test.YtoodlmhnemamhaaLib
import Derived.ProofKit
import Derived.OpenShut
import Derived.ShutString
import Derived.ChangeOld
import Derived.Deep.Slices
import Derived.Deep.Fields
namespace Go.Proofs.Ytoodlmhnemamhaa
open Go.ChangeShapes Go.WideShapes Go.ChangeAt Go.RowKit Go.Deep

theorem list_of {α : Type} : ∀ (n : Nat) {p : Nat → α → Prop}, (∀ i, i < n → ∃ y, p i y) → ∃ xs : List α, xs.length = n ∧ ∀ i (h : i < xs.length), p i xs[i]
  | 0, _, _ => ⟨[], rfl, fun i h => absurd h (Nat.not_lt_zero i)⟩
  | n + 1, p, h => by
    obtain ⟨xs, hl, hx⟩ := list_of n (p := p) fun i hi => h i (by omega)
    obtain ⟨y, hy⟩ := h n (by omega)
    refine ⟨xs ++ [y], by simp [hl], fun i hi => ?_⟩
    by_cases e : i < xs.length
    · rw [List.getElem_append_left e]; exact hx i e
    · have : i = xs.length := by simp at hi; omega
      subst this
      simp
      rw [hl]; exact hy

section
variable {H : Type} {enc : TypeId × Value → H} {P : Program} {w : World} {base : Nat} {spare : Nat → Bool} {held : Bool}

theorem op_int {t : TypeId} {k : IntKind} (ht : P.underlying t = some (.int k)) : ∀ (n : Nat) (cs : List Value) (x : DataW H × List MemPlace), DataW.trod enc P w base spare held n t cs = some x → ∃ z : Int, cs = encI k z ∧ (Lit.int k z).wf = true := by
  intro n cs x h
  obtain ⟨z, h1, _, h2⟩ := DataW.trod_int ht h
  exact ⟨z, h1, h2⟩

theorem op_str {t : TypeId} (ht : P.underlying t = some .string) : ∀ (n : Nat) (cs : List Value) (x : DataW H × List MemPlace), DataW.trod enc P w base spare held n t cs = some x → ∃ s : ByteArray, cs = [.string s] ∧ s.size ≤ maxLen := by
  intro n cs x h
  obtain ⟨z, h1, _, h2⟩ := DataW.trod_string ht h
  exact ⟨z, h1, h2⟩

theorem op_sl {α : Type} {enc' : α → List Value} {good : α → Prop} {t e : TypeId} {sz : Nat} (ht : P.underlying t = some (.slice e)) (hC : P.cellsOf e = sz) (h0 : 0 < sz)
    (hop : ∀ (n : Nat) (cs : List Value) (x : DataW H × List MemPlace), DataW.trod enc P w base spare held n e cs = some x → ∃ y, cs = enc' y ∧ good y)
    (fuel : Nat) (cs : List Value) (x : DataW H × List MemPlace) (h : DataW.trod enc P w base spare held fuel t cs = some x) :
    ∃ (a : Option Addr) (n cap : Nat) (xs : List α), cs = [.slice a n cap] ∧ Rd enc' sz w a n cap xs ∧ ∀ y ∈ xs, good y := by
  rcases open_slice ht h with ⟨rfl, _⟩ | ⟨a, len, cap, m, n, D, Pl, rfl, hb, hl, hm, hmm, _, hi⟩
  · exact ⟨none, 0, 0, [], rfl, ⟨Nat.le_refl _, by unfold maxLen; omega, rfl, fun _ => rfl, fun h => absurd h (Nat.lt_irrefl 0)⟩, fun y hy => absurd hy (by simp)⟩
  · have hlm : len ≤ m := by rw [hmm]; split <;> omega
    obtain ⟨xs, hxl, hx⟩ := list_of len (p := fun i y => good y ∧ (enc' y).length = sz ∧ ∀ (f : Nat) (u : Value), (enc' y)[f]? = some u → w.cell? ((a.add (i * sz)).add f) = some u) fun i hilt => by
      obtain ⟨cs', hc, htr⟩ := hi i (by omega)
      obtain ⟨y, rfl, hg⟩ := hop _ _ _ htr
      rw [hC] at hc
      obtain ⟨_, hcl, hat⟩ := World.cells?_some hc
      refine ⟨y, hg, hcl, fun f u hu => ?_⟩
      have hf : f < sz := by have := (List.getElem?_eq_some_iff.1 hu).1; omega
      rw [hat f hf, hu]
    refine ⟨some a, len, cap, xs, rfl, ⟨hl, hm, hxl, (fun hh => by cases hh), fun hpos => ?_⟩, fun y hy => ?_⟩
    · obtain ⟨_, hl0, hc0⟩ := hx 0 (by omega)
      have hu0 : (enc' xs[0])[0]? = some ((enc' xs[0])[0]'(by omega)) := List.getElem?_eq_getElem (by omega)
      have hcell := hc0 0 _ hu0
      rw [Go.Deep.add_add] at hcell
      obtain ⟨b, off, spot⟩ := a
      have hspot : spot = none := by simpa [Addr.add] using World.cell?_spot hcell
      subst hspot
      refine ⟨b, off, rfl, by simpa [Addr.add] using World.block_lt_of_cell? _ _ hcell, fun i hi f u hu => ?_⟩
      have := (hx i hi).2.2 f u hu
      rw [Go.Deep.add_add, Addr.add_lit] at this
      rw [Nat.add_assoc]; exact this
    · obtain ⟨i, hi, rfl⟩ := List.getElem_of_mem hy
      exact (hx i hi).1

theorem op_st {e : TypeId} {fs : Array Field} (he : P.underlying e = some (.struct fs)) (hone : oneCellFields P fs = true) (hC : P.cellsOf e = fs.size) {fuel : Nat} {cs : List Value} {x : DataW H × List MemPlace}
    (h : DataW.trod enc P w base spare held fuel e cs = some x) :
    cs.length = fs.size ∧ ∀ (j : Nat) (f : Field), fs[j]? = some f → ∃ (n : Nat) (v : Value) (y : DataW H × List MemPlace), cs[j]? = some v ∧ DataW.trod enc P w base spare held n f.type [v] = some y := by
  obtain ⟨ys, n, _, _, hlen, hyl, hf⟩ := DataW.trod_struct he h
  refine ⟨by rw [hlen, hC], fun j f hj => ?_⟩
  obtain ⟨ho, hk⟩ := hone_of hone j f hj
  have hjl : j < fs.size := (Array.getElem?_eq_some_iff.1 hj).1
  have h1 := hf j f hj
  rw [ho, hk] at h1
  have hl : j < cs.length := by omega
  have hone' : (cs.drop j).take 1 = [cs[j]] := by
    rw [List.drop_eq_getElem_cons hl]
    rfl
  rw [hone', List.getElem?_eq_getElem (show j < ys.length by omega)] at h1
  exact ⟨n, cs[j], _, List.getElem?_eq_getElem hl, h1⟩

theorem in8_of {z : Int} (h : (Lit.int .u8 z).wf = true) : In8 z := by
  simp [Lit.wf] at h
  have e1 : IntKind.u8.min = 0 := rfl
  have e2 : IntKind.u8.max = 255 := rfl
  unfold In8; omega
theorem in64_of {z : Int} (h : (Lit.int .i64 z).wf = true) : In64 z := by
  simp [Lit.wf] at h
  have e1 : IntKind.i64.min = -9223372036854775808 := rfl
  have e2 : IntKind.i64.max = 9223372036854775807 := rfl
  unfold In64; omega
theorem op_i64 {t : TypeId} (ht : P.underlying t = some (.int .i64)) : ∀ (n : Nat) (cs : List Value) (x : DataW H × List MemPlace), DataW.trod enc P w base spare held n t cs = some x → ∃ z : Int, cs = encI .i64 z ∧ In64 z := by
  intro n cs x h
  obtain ⟨z, h1, h2⟩ := op_int ht n cs x h
  exact ⟨z, h1, in64_of h2⟩
theorem op_u8 {t : TypeId} (ht : P.underlying t = some (.int .u8)) : ∀ (n : Nat) (cs : List Value) (x : DataW H × List MemPlace), DataW.trod enc P w base spare held n t cs = some x → ∃ z : Int, cs = encI .u8 z ∧ In8 z := by
  intro n cs x h
  obtain ⟨z, h1, h2⟩ := op_int ht n cs x h
  exact ⟨z, h1, in8_of h2⟩
end
end Go.Proofs.Ytoodlmhnemamhaa

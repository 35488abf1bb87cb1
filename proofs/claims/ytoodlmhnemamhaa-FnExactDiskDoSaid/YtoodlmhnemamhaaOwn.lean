/- Rows of integers that a call has made, with the blocks between which they lie; what a write inside those blocks leaves. Nothing of the program. -/
import Derived.Test.YtoodlmhnemamhaaLib
namespace Go.Proofs.Ytoodlmhnemamhaa
open Go.RowKit

/-- From w to w' only blocks from lo on and below hi were written; new blocks may have come. -/
structure Win (lo hi : Nat) (w w' : World) : Prop where
  os : w'.os = w.os
  tape : w'.tape = w.tape
  output : w'.output = w.output
  size : w.heap.size ≤ w'.heap.size
  block : ∀ k, k < w.heap.size → (k < lo ∨ hi ≤ k) → w'.heap[k]? = w.heap[k]?

theorem Win.below {lo hi : Nat} {w w' : World} (h : Win lo hi w w') {B : Nat} (hB : B ≤ lo) (hw : B ≤ w.heap.size) : Below B w w' :=
  ⟨h.os, h.tape, h.output, h.size, fun k hk => h.block k (by omega) (Or.inl (by omega))⟩
theorem Win.refl (lo hi : Nat) (w : World) : Win lo hi w w := ⟨rfl, rfl, rfl, Nat.le_refl _, fun _ _ _ => rfl⟩
theorem Win.trans {lo hi : Nat} {w w1 w2 : World} (h : Win lo hi w w1) (k : Win lo hi w1 w2) : Win lo hi w w2 :=
  ⟨k.os.trans h.os, k.tape.trans h.tape, k.output.trans h.output, Nat.le_trans h.size k.size, fun i hi' hr => (k.block i (Nat.lt_of_lt_of_le hi' h.size) hr).trans (h.block i hi' hr)⟩
theorem Win.of_below {lo hi : Nat} {w w' : World} (h : Below w.heap.size w w') : Win lo hi w w' := ⟨h.os, h.tape, h.output, h.size, fun k hk _ => h.block k hk⟩
theorem Win.of_grown {lo hi : Nat} {w w' : World} {row : Option Nat} (h : w.grownBy w' row) (hr : ∀ g, row = some g → lo ≤ g ∧ g < hi) : Win lo hi w w' :=
  ⟨h.os, h.tape, h.output, h.size, fun k hk hkk => h.block k hk (fun e => by have := hr k e.symm; omega)⟩
theorem Win.mono {lo hi lo' hi' : Nat} {w w' : World} (h : Win lo hi w w') (h1 : lo' ≤ lo) (h2 : hi ≤ hi') : Win lo' hi' w w' :=
  ⟨h.os, h.tape, h.output, h.size, fun k hk hkk => h.block k hk (by omega)⟩

/-- The slice value a n cap owns the integers zs, in a block from lo on and below hi. -/
structure OwnI (k : IntKind) (e : TypeId) (lo hi : Nat) (w : World) (a : Option Addr) (n cap : Nat) (zs : List Int) : Prop where
  len : zs.length = n
  own : w.ownsRow lo e 1 (.slice a n cap) n (zs.map (Value.int k))
  lt : ∀ g, (Value.slice a n cap).ownBlock = some g → g < hi
  top : hi ≤ w.heap.size
  small : n ≤ 4611686018427387904

theorem OwnI.rd {k : IntKind} {e : TypeId} {lo hi : Nat} {w : World} {a : Option Addr} {n cap : Nat} {zs : List Int} (h : OwnI k e lo hi w a n cap zs) : Rd (encI k) 1 w a n cap zs := Rd.of_ints h.own h.len
theorem OwnI.below {k : IntKind} {e : TypeId} {lo hi : Nat} {w w' : World} {a : Option Addr} {n cap : Nat} {zs : List Int} (h : OwnI k e lo hi w a n cap zs) (hb : Below w.heap.size w w') : OwnI k e lo hi w' a n cap zs :=
  ⟨h.len, own_below h.own hb (Nat.le_refl _), h.lt, Nat.le_trans h.top hb.size, h.small⟩
theorem own_win {w w' : World} {b : Nat} {e : TypeId} {sz : Nat} {v : Value} {n : Nat} {xs : List Value} (h : w.ownsRow b e sz v n xs) {lo hi : Nat} (hw : Win lo hi w w') (hd : ∀ g, v.ownBlock = some g → g < lo ∨ hi ≤ g) : w'.ownsRow b e sz v n xs := by
  refine ⟨h.1, ?_⟩
  rcases h.2 with hn | ⟨g, cap, cur, hv, hgb, hh, r⟩
  · exact Or.inl hn
  · exact Or.inr ⟨g, cap, cur, hv, hgb, by rw [hw.block g (Array.getElem?_eq_some_iff.1 hh).1 (hd g (by rw [hv]; rfl))]; exact hh, r⟩
theorem OwnI.win {k : IntKind} {e : TypeId} {lo hi : Nat} {w w' : World} {a : Option Addr} {n cap : Nat} {zs : List Int} (h : OwnI k e lo hi w a n cap zs) {lo' hi' : Nat} (hw : Win lo' hi' w w') (hd : hi' ≤ lo ∨ hi ≤ lo') : OwnI k e lo hi w' a n cap zs :=
  ⟨h.len, own_win h.own hw (fun g hg => by have h1 := (World.ownsRow.lt h.own g hg).1; have h2 := h.lt g hg; omega), h.lt, Nat.le_trans h.top hw.size, h.small⟩
theorem OwnI.of {k : IntKind} {e : TypeId} {B : Nat} {w : World} {a : Option Addr} {n cap : Nat} {zs : List Int} (h : w.ownsRow B e 1 (.slice a n cap) n (zs.map (Value.int k))) (hz : zs.length = n) (hs : n ≤ 4611686018427387904) : OwnI k e B w.heap.size w a n cap zs :=
  ⟨hz, h, fun g hg => (World.ownsRow.lt h g hg).2, Nat.le_refl _, hs⟩
theorem OwnI.lo_le {k : IntKind} {e : TypeId} {lo hi : Nat} {w : World} {a : Option Addr} {n cap : Nat} {zs : List Int} (h : OwnI k e lo hi w a n cap zs) {lo' : Nat} (hl : lo' ≤ lo) : OwnI k e lo' hi w a n cap zs :=
  ⟨h.len, own_base h.own hl, h.lt, h.top, h.small⟩
theorem OwnI.grow {k : IntKind} {e : TypeId} {lo hi : Nat} {w : World} {a : Option Addr} {n cap : Nat} {zs : List Int} (h : OwnI k e lo hi w a n cap zs) {hi' : Nat} (hl : hi ≤ hi') (ht : hi' ≤ w.heap.size) : OwnI k e lo hi' w a n cap zs :=
  ⟨h.len, h.own, fun g hg => Nat.lt_of_lt_of_le (h.lt g hg) hl, ht, h.small⟩
theorem OwnI.nil (k : IntKind) (e : TypeId) (lo : Nat) (w : World) : OwnI k e lo w.heap.size w none 0 0 [] :=
  ⟨rfl, World.ownsRow_nil _ _ _ _, fun g hg => by simp [Value.ownBlock] at hg, Nat.le_refl _, by omega⟩

theorem Win.set {lo hi : Nat} (w : World) (b o : Nat) (v : Value) (h1 : lo ≤ b) (h2 : b < hi) : Win lo hi w (w.setCell ⟨b, o, none⟩ v) :=
  ⟨rfl, rfl, rfl, by simp [World.setCell], fun k _ hkk => Below.heap_setCell _ _ _ _ (by show k ≠ b; omega)⟩
theorem Win.then_below {lo hi : Nat} {w w1 w2 : World} (h : Win lo hi w w1) (k : Below w.heap.size w1 w2) : Win lo hi w w2 :=
  ⟨k.os.trans h.os, k.tape.trans h.tape, k.output.trans h.output, Nat.le_trans h.size k.size, fun i hi' hr => (k.block i hi').trans (h.block i hi' hr)⟩
theorem cell_win {lo hi : Nat} {w w' : World} (hw : Win lo hi w w') {b o : Nat} {v : Value} (h : w.cell? ⟨b, o, none⟩ = some v) (hd : b < lo ∨ hi ≤ b) : w'.cell? ⟨b, o, none⟩ = some v := by
  have hb := World.block_lt_of_cell? _ _ h
  rw [World.cell?_of_block (w := w) (a := ⟨b, o, none⟩) (hw.block b hb hd)]; exact h
theorem size_set (w : World) (a : Addr) (v : Value) : (w.setCell a v).heap.size = w.heap.size := by simp [World.setCell]
/-- What is left of a budget. -/
def leftB (left : Int) (n : Nat) : Int := if left < (n : Int) then -1 else left - n
theorem leftB_no {left : Int} {n : Nat} (h : left < (n : Int)) : leftB left n = -1 := if_pos h
theorem leftB_yes {left : Int} {n : Nat} (h : ¬ left < (n : Int)) : leftB left n = left - n := if_neg h

/-- A call's end: it returned a new row of integers and a bool. -/
def RetB (k : IntKind) (e : TypeId) (r : List Int × Bool) (w : World) (en : Ending) (w' : World) : Prop := ∃ (a : Option Addr) (n cap : Nat), en = .returned (.tuple #[.slice a n cap, .bool r.2]) ∧ OwnI k e w.heap.size w'.heap.size w' a n cap r.1 ∧ Below w.heap.size w w'
/-- A call's end: it returned a new row of integers. -/
def RetL (k : IntKind) (e : TypeId) (r : List Int) (w : World) (en : Ending) (w' : World) : Prop := ∃ (a : Option Addr) (n cap : Nat), en = .returned (.slice a n cap) ∧ OwnI k e w.heap.size w'.heap.size w' a n cap r ∧ Below w.heap.size w w'
end Go.Proofs.Ytoodlmhnemamhaa

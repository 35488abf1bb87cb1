/- The struct Batch as data: its cells, and what the form's reading of it gives. -/
import Derived.Test.YtifaekkbdmcehaaRows
import Derived.Test.YtifaekkbdmcehaaOpen
import Derived.Test.YtifaekkbdmcehaaTyRec
namespace Go.Proofs.Ytifaekkbdmcehaa
open Go.ChangeShapes Go.WideShapes Go.ChangeAt Go.RowKit Go.Deep
structure BatchR where
  recsA : Option Addr
  recsN : Nat
  recsC : Nat
  recs : List RecR
def encBatch (r : BatchR) : List Value := [.slice r.recsA r.recsN r.recsC]
def goodBatch (w : World) (r : BatchR) : Prop := (Rd encRec 3 w r.recsA r.recsN r.recsC r.recs ∧ ∀ y ∈ r.recs, (goodRec w) y)
theorem opBatch {H : Type} {enc : TypeId × Value → H} {w : World} {base : Nat} {spare : Nat → Bool} {held : Bool} (n : Nat) (cs : List Value) (x : DataW H × List MemPlace) (h : DataW.trod enc Try.prog w base spare held n 102 cs = some x) :
    ∃ y : BatchR, cs = encBatch y ∧ goodBatch w y := by
  obtain ⟨hl, hf⟩ := op_st Try.underlying102 (by kernel_rfl) (by kernel_rfl) h
  obtain ⟨c0, rfl⟩ : ∃ c0, cs = [c0] := by
    match cs, hl with
    | [c0], _ => exact ⟨c0, rfl⟩
  obtain ⟨n0, v0, y0, hv0, ht0⟩ := hf 0 _ rfl
  obtain rfl : c0 = v0 := by simpa using hv0
  obtain ⟨a0, m0, k0, z0, e0, g0⟩ := op_sl (sz := 3) Try.underlying22 (by kernel_rfl) (by decide) opRec n0 _ _ ht0
  obtain rfl : c0 = .slice a0 m0 k0 := by simpa using e0
  exact ⟨⟨a0, m0, k0, z0⟩, rfl, g0⟩
theorem goodBatch_below {w w' : World} {r : BatchR} (h : goodBatch w r) {B : Nat} (hb : Below B w w') (hB : w.heap.size ≤ B) : goodBatch w' r := ⟨h.1.below hb hB, fun y hy => goodRec_below (h.2 y hy) hb hB⟩
end Go.Proofs.Ytifaekkbdmcehaa

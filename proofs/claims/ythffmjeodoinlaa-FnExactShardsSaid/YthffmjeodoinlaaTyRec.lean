/- The struct Rec as data: its cells, and what the form's reading of it gives. -/
import Derived.Test.YthffmjeodoinlaaRows
import Derived.Test.YthffmjeodoinlaaOpen
namespace Go.Proofs.Ythffmjeodoinlaa
open Go.ChangeShapes Go.WideShapes Go.ChangeAt Go.RowKit Go.Deep
structure RecR where
  a : Int
  b : Int
  c : Int
deriving DecidableEq
def encRec (r : RecR) : List Value := [.int .i64 r.a, .int .i64 r.b, .int .i64 r.c]
def goodRec (_w : World) (r : RecR) : Prop := (In64 r.a) ∧ (In64 r.b) ∧ (In64 r.c)
theorem opRec {H : Type} {enc : TypeId × Value → H} {w : World} {base : Nat} {spare : Nat → Bool} {held : Bool} (n : Nat) (cs : List Value) (x : DataW H × List MemPlace) (h : DataW.trod enc Try.prog w base spare held n 64 cs = some x) :
    ∃ y : RecR, cs = encRec y ∧ goodRec w y := by
  obtain ⟨hl, hf⟩ := op_st Try.underlying64 (by kernel_rfl) (by kernel_rfl) h
  obtain ⟨c0, c1, c2, rfl⟩ : ∃ c0 c1 c2, cs = [c0, c1, c2] := by
    match cs, hl with
    | [c0, c1, c2], _ => exact ⟨c0, c1, c2, rfl⟩
  obtain ⟨n0, v0, y0, hv0, ht0⟩ := hf 0 _ rfl
  obtain rfl : c0 = v0 := by simpa using hv0
  obtain ⟨z0, e0, g0⟩ := op_i64 Try.underlying3 n0 _ _ ht0
  obtain rfl : c0 = .int .i64 z0 := by simpa [encI] using e0
  obtain ⟨n1, v1, y1, hv1, ht1⟩ := hf 1 _ rfl
  obtain rfl : c1 = v1 := by simpa using hv1
  obtain ⟨z1, e1, g1⟩ := op_i64 Try.underlying3 n1 _ _ ht1
  obtain rfl : c1 = .int .i64 z1 := by simpa [encI] using e1
  obtain ⟨n2, v2, y2, hv2, ht2⟩ := hf 2 _ rfl
  obtain rfl : c2 = v2 := by simpa using hv2
  obtain ⟨z2, e2, g2⟩ := op_i64 Try.underlying3 n2 _ _ ht2
  obtain rfl : c2 = .int .i64 z2 := by simpa [encI] using e2
  exact ⟨⟨z0, z1, z2⟩, rfl, g0, g1, g2⟩
theorem goodRec_below {w w' : World} {r : RecR} (h : goodRec w r) {B : Nat} (_hb : Below B w w') (_hB : w.heap.size ≤ B) : goodRec w' r := ⟨h.1, h.2.1, h.2.2⟩
end Go.Proofs.Ythffmjeodoinlaa

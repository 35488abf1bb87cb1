/- The struct File as data: its cells, and what the form's reading of it gives. -/
import Derived.Test.YtoodlmhnemamhaaRows
import Derived.Test.YtoodlmhnemamhaaOpen
namespace Go.Proofs.Ytoodlmhnemamhaa
open Go.ChangeShapes Go.WideShapes Go.ChangeAt Go.RowKit Go.Deep
structure FileR where
  name : ByteArray
  dataA : Option Addr
  dataN : Nat
  dataC : Nat
  data : List Int
def encFile (r : FileR) : List Value := [.string r.name, .slice r.dataA r.dataN r.dataC]
def goodFile (w : World) (r : FileR) : Prop := (r.name.size ≤ maxLen) ∧ (Rd (encI .u8) 1 w r.dataA r.dataN r.dataC r.data ∧ ∀ y ∈ r.data, In8 y)
theorem opFile {H : Type} {enc : TypeId × Value → H} {w : World} {base : Nat} {spare : Nat → Bool} {held : Bool} (n : Nat) (cs : List Value) (x : DataW H × List MemPlace) (h : DataW.trod enc Try.prog w base spare held n 88 cs = some x) :
    ∃ y : FileR, cs = encFile y ∧ goodFile w y := by
  obtain ⟨hl, hf⟩ := op_st Try.underlying88 (by kernel_rfl) (by kernel_rfl) h
  obtain ⟨c0, c1, rfl⟩ : ∃ c0 c1, cs = [c0, c1] := by
    match cs, hl with
    | [c0, c1], _ => exact ⟨c0, c1, rfl⟩
  obtain ⟨n0, v0, y0, hv0, ht0⟩ := hf 0 _ rfl
  obtain rfl : c0 = v0 := by simpa using hv0
  obtain ⟨z0, e0, g0⟩ := op_str Try.underlying9 n0 _ _ ht0
  obtain rfl : c0 = .string z0 := by simpa using e0
  obtain ⟨n1, v1, y1, hv1, ht1⟩ := hf 1 _ rfl
  obtain rfl : c1 = v1 := by simpa using hv1
  obtain ⟨a1, m1, k1, z1, e1, g1⟩ := op_sl (sz := 1) Try.underlying22 (by kernel_rfl) (by decide) (op_u8 Try.underlying5) n1 _ _ ht1
  obtain rfl : c1 = .slice a1 m1 k1 := by simpa using e1
  exact ⟨⟨z0, a1, m1, k1, z1⟩, rfl, g0, g1⟩
theorem goodFile_below {w w' : World} {r : FileR} (h : goodFile w r) {B : Nat} (hb : Below B w w') (hB : w.heap.size ≤ B) : goodFile w' r := ⟨h.1, ⟨h.2.1.below hb hB, h.2.2⟩⟩
end Go.Proofs.Ytoodlmhnemamhaa

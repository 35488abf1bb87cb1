/- The struct FsOp as data: its cells, and what the form's reading of it gives. -/
import Derived.Test.YtoodlmhnemamhaaRows
import Derived.Test.YtoodlmhnemamhaaOpen
namespace Go.Proofs.Ytoodlmhnemamhaa
open Go.ChangeShapes Go.WideShapes Go.ChangeAt Go.RowKit Go.Deep
structure FsOpR where
  kind : Int
  name : ByteArray
  dst : ByteArray
  dataA : Option Addr
  dataN : Nat
  dataC : Nat
  data : List Int
def encFsOp (r : FsOpR) : List Value := [.int .i64 r.kind, .string r.name, .string r.dst, .slice r.dataA r.dataN r.dataC]
def goodFsOp (w : World) (r : FsOpR) : Prop := (In64 r.kind) ∧ (r.name.size ≤ maxLen) ∧ (r.dst.size ≤ maxLen) ∧ (Rd (encI .u8) 1 w r.dataA r.dataN r.dataC r.data ∧ ∀ y ∈ r.data, In8 y)
theorem opFsOp {H : Type} {enc : TypeId × Value → H} {w : World} {base : Nat} {spare : Nat → Bool} {held : Bool} (n : Nat) (cs : List Value) (x : DataW H × List MemPlace) (h : DataW.trod enc Try.prog w base spare held n 24 cs = some x) :
    ∃ y : FsOpR, cs = encFsOp y ∧ goodFsOp w y := by
  obtain ⟨hl, hf⟩ := op_st Try.underlying24 (by kernel_rfl) (by kernel_rfl) h
  obtain ⟨c0, c1, c2, c3, rfl⟩ : ∃ c0 c1 c2 c3, cs = [c0, c1, c2, c3] := by
    match cs, hl with
    | [c0, c1, c2, c3], _ => exact ⟨c0, c1, c2, c3, rfl⟩
  obtain ⟨n0, v0, y0, hv0, ht0⟩ := hf 0 _ rfl
  obtain rfl : c0 = v0 := by simpa using hv0
  obtain ⟨z0, e0, g0⟩ := op_i64 Try.underlying3 n0 _ _ ht0
  obtain rfl : c0 = .int .i64 z0 := by simpa [encI] using e0
  obtain ⟨n1, v1, y1, hv1, ht1⟩ := hf 1 _ rfl
  obtain rfl : c1 = v1 := by simpa using hv1
  obtain ⟨z1, e1, g1⟩ := op_str Try.underlying9 n1 _ _ ht1
  obtain rfl : c1 = .string z1 := by simpa using e1
  obtain ⟨n2, v2, y2, hv2, ht2⟩ := hf 2 _ rfl
  obtain rfl : c2 = v2 := by simpa using hv2
  obtain ⟨z2, e2, g2⟩ := op_str Try.underlying9 n2 _ _ ht2
  obtain rfl : c2 = .string z2 := by simpa using e2
  obtain ⟨n3, v3, y3, hv3, ht3⟩ := hf 3 _ rfl
  obtain rfl : c3 = v3 := by simpa using hv3
  obtain ⟨a3, m3, k3, z3, e3, g3⟩ := op_sl (sz := 1) Try.underlying22 (by kernel_rfl) (by decide) (op_u8 Try.underlying5) n3 _ _ ht3
  obtain rfl : c3 = .slice a3 m3 k3 := by simpa using e3
  exact ⟨⟨z0, z1, z2, a3, m3, k3, z3⟩, rfl, g0, g1, g2, g3⟩
theorem goodFsOp_below {w w' : World} {r : FsOpR} (h : goodFsOp w r) {B : Nat} (hb : Below B w w') (hB : w.heap.size ≤ B) : goodFsOp w' r := ⟨h.1, h.2.1, h.2.2.1, ⟨h.2.2.2.1.below hb hB, h.2.2.2.2⟩⟩
end Go.Proofs.Ytoodlmhnemamhaa

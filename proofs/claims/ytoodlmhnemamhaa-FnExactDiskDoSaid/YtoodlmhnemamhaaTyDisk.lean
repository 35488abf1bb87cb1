/- The struct Disk as data: its cells, and what the form's reading of it gives. -/
import Derived.Test.YtoodlmhnemamhaaRows
import Derived.Test.YtoodlmhnemamhaaOpen
import Derived.Test.YtoodlmhnemamhaaTyFile
import Derived.Test.YtoodlmhnemamhaaTyFsOp
namespace Go.Proofs.Ytoodlmhnemamhaa
open Go.ChangeShapes Go.WideShapes Go.ChangeAt Go.RowKit Go.Deep
structure DiskR where
  room : Int
  fuse : Int
  filesA : Option Addr
  filesN : Nat
  filesC : Nat
  files : List FileR
  waitA : Option Addr
  waitN : Nat
  waitC : Nat
  wait : List FsOpR
def encDisk (r : DiskR) : List Value := [.int .i64 r.room, .int .i64 r.fuse, .slice r.filesA r.filesN r.filesC, .slice r.waitA r.waitN r.waitC]
def goodDisk (w : World) (r : DiskR) : Prop := (In64 r.room) ∧ (In64 r.fuse) ∧ (Rd encFile 2 w r.filesA r.filesN r.filesC r.files ∧ ∀ y ∈ r.files, (goodFile w) y) ∧ (Rd encFsOp 4 w r.waitA r.waitN r.waitC r.wait ∧ ∀ y ∈ r.wait, (goodFsOp w) y)
theorem opDisk {H : Type} {enc : TypeId × Value → H} {w : World} {base : Nat} {spare : Nat → Bool} {held : Bool} (n : Nat) (cs : List Value) (x : DataW H × List MemPlace) (h : DataW.trod enc Try.prog w base spare held n 43 cs = some x) :
    ∃ y : DiskR, cs = encDisk y ∧ goodDisk w y := by
  obtain ⟨hl, hf⟩ := op_st Try.underlying43 (by kernel_rfl) (by kernel_rfl) h
  obtain ⟨c0, c1, c2, c3, rfl⟩ : ∃ c0 c1 c2 c3, cs = [c0, c1, c2, c3] := by
    match cs, hl with
    | [c0, c1, c2, c3], _ => exact ⟨c0, c1, c2, c3, rfl⟩
  obtain ⟨n0, v0, y0, hv0, ht0⟩ := hf 0 _ rfl
  obtain rfl : c0 = v0 := by simpa using hv0
  obtain ⟨z0, e0, g0⟩ := op_i64 Try.underlying3 n0 _ _ ht0
  obtain rfl : c0 = .int .i64 z0 := by simpa [encI] using e0
  obtain ⟨n1, v1, y1, hv1, ht1⟩ := hf 1 _ rfl
  obtain rfl : c1 = v1 := by simpa using hv1
  obtain ⟨z1, e1, g1⟩ := op_i64 Try.underlying3 n1 _ _ ht1
  obtain rfl : c1 = .int .i64 z1 := by simpa [encI] using e1
  obtain ⟨n2, v2, y2, hv2, ht2⟩ := hf 2 _ rfl
  obtain rfl : c2 = v2 := by simpa using hv2
  obtain ⟨a2, m2, k2, z2, e2, g2⟩ := op_sl (sz := 2) Try.underlying40 (by kernel_rfl) (by decide) opFile n2 _ _ ht2
  obtain rfl : c2 = .slice a2 m2 k2 := by simpa using e2
  obtain ⟨n3, v3, y3, hv3, ht3⟩ := hf 3 _ rfl
  obtain rfl : c3 = v3 := by simpa using hv3
  obtain ⟨a3, m3, k3, z3, e3, g3⟩ := op_sl (sz := 4) Try.underlying41 (by kernel_rfl) (by decide) opFsOp n3 _ _ ht3
  obtain rfl : c3 = .slice a3 m3 k3 := by simpa using e3
  exact ⟨⟨z0, z1, a2, m2, k2, z2, a3, m3, k3, z3⟩, rfl, g0, g1, g2, g3⟩
theorem goodDisk_below {w w' : World} {r : DiskR} (h : goodDisk w r) {B : Nat} (hb : Below B w w') (hB : w.heap.size ≤ B) : goodDisk w' r := ⟨h.1, h.2.1, ⟨h.2.2.1.1.below hb hB, fun y hy => goodFile_below (h.2.2.1.2 y hy) hb hB⟩, ⟨h.2.2.2.1.below hb hB, fun y hy => goodFsOp_below (h.2.2.2.2 y hy) hb hB⟩⟩
end Go.Proofs.Ytoodlmhnemamhaa

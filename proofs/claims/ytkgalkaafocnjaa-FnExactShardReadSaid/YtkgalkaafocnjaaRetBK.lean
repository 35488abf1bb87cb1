/- A call's end: a new row of bytes and a bool. -/
import Derived.Test.YtkgalkaafocnjaaByteSK
import Derived.Test.YtkgalkaafocnjaaFlatS
namespace Go.Proofs.Ytkgalkaafocnjaa
open Go.RowKit
/-- A call's end: it returned a new row of bytes and a bool. -/
def RetBK (r : List Int × Bool) (w : World) (en : Ending) (w' : World) : Prop := ∃ y : Row Int, en = .returned (.tuple #[.slice y.a y.n y.c, .bool r.2]) ∧ datByteS y = r.1 ∧ OwnByteS w.heap.size w'.heap.size w' y ∧ bulkByteS y ≤ 1048576 ∧ Below w.heap.size w w'
theorem RetBK.none {w w' : World} (hb : Below w.heap.size w w') : RetBK ([], false) w (.returned (.tuple #[.slice none 0 0, .bool false])) w' :=
  ⟨⟨Option.none, 0, 0, []⟩, rfl, rfl, ⟨((OwnI.nil _ _ _ _).toS).lo_le hb.size⟩, Nat.zero_le _, hb⟩
theorem RetBK.of {w w' : World} {a : Option Addr} {n cap : Nat} {zs : List Int} (ho : OwnI .u8 5 w.heap.size w'.heap.size w' a n cap zs) (hb : Below w.heap.size w w') (hn : n ≤ 1048576) : RetBK (zs, true) w (.returned (.tuple #[.slice a n cap, .bool true])) w' :=
  ⟨⟨a, n, cap, zs⟩, rfl, rfl, ⟨ho.toS⟩, hn, hb⟩
end Go.Proofs.Ytkgalkaafocnjaa

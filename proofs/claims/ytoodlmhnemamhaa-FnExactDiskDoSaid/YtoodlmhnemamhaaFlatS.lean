/- Rows of integers as rows of one-cell elements (OwnS). Nothing of the program but the names. -/
import Derived.Test.YtoodlmhnemamhaaRowS
import Derived.Test.YtoodlmhnemamhaaByteS
import Derived.Test.YtoodlmhnemamhaaByteM
namespace Go.Proofs.Ytoodlmhnemamhaa
open Go.RowKit
theorem OwnI.toS {k : IntKind} {e : TypeId} {lo hi : Nat} {w : World} {a : Option Addr} {n cap : Nat} {zs : List Int} (h : OwnI k e lo hi w a n cap zs) : OwnS (encI k) 1 e lo hi w a n cap zs :=
  ⟨h.len, by rw [flat_encI]; exact h.own, h.lt, h.top, h.small⟩
theorem OwnS.toI {k : IntKind} {e : TypeId} {lo hi : Nat} {w : World} {a : Option Addr} {n cap : Nat} {zs : List Int} (h : OwnS (encI k) 1 e lo hi w a n cap zs) : OwnI k e lo hi w a n cap zs :=
  ⟨h.len, by rw [← flat_encI]; exact h.own, h.lt, h.top, h.small⟩
theorem toByteS_s (a : Option Addr) (n cap : Nat) (zs : List Int) (w : World) (h : Rd (encI .u8) 1 w a n cap zs) (hn : n ≤ 1048576) :
    Calls Try.prog 38 #[.slice a n cap] w fun e w' => ∃ g, e = .returned (.slice (some ⟨g, 0, none⟩) n n) ∧ OwnS (encI .u8) 1 5 w.heap.size w'.heap.size w' (some ⟨g, 0, none⟩) n n zs ∧ Below w.heap.size w w' :=
  (toByteS_any a n cap zs w h hn).mono fun _ _ ⟨g, h1, h2, h3⟩ => ⟨g, h1, h2.toS, h3⟩
theorem markByteS_s (a : Option Addr) (n cap : Nat) (zs : List Int) (k : Int) (lo hi : Nat) (w : World) (h : OwnS (encI .u8) 1 5 lo hi w a n cap zs) (_hn : n ≤ 1073741824) (hk0 : 0 ≤ k) (hk1 : k ≤ 2305843009213693952) :
    Calls Try.prog 27 #[.slice a n cap, .int .i64 k] w fun e w' => e = .returned (.int .i64 (k + n)) ∧ OwnS (encI .u8) 1 5 lo hi w' a n cap (mks by8 k n) ∧ Win lo hi w w' :=
  (markByteS_any a n cap zs k lo hi w h.toI hk0 hk1).mono fun _ _ ⟨h1, h2, h3⟩ => ⟨h1, h2.toS, h3⟩
theorem heldByteS_s (a : Option Addr) (n cap : Nat) (k : Int) (w : World) (h : Rd (encI .u8) 1 w a n cap (mks by8 k n)) (hn : n ≤ 1073741824) (hk0 : 0 ≤ k) (hk1 : k ≤ 2305843009213693952) :
    Calls Try.prog 28 #[.slice a n cap, .int .i64 k] w fun e w' => e = .returned (.int .i64 (k + n)) ∧ Below w.heap.size w w' := heldByteS_any a n cap k w h (by omega) hk0 hk1
end Go.Proofs.Ytoodlmhnemamhaa

/- A slice as data with its address. Nothing of the program. -/
import Derived.Test.YtoodlmhnemamhaaRowS
namespace Go.Proofs.Ytoodlmhnemamhaa
structure Row (α : Type) where
  a : Option Addr
  n : Nat
  c : Nat
  l : List α
end Go.Proofs.Ytoodlmhnemamhaa

/- DiskOk: both contracts in the laws' form. -/
import Derived.Test.YtoodlmhnemamhaaDiskOk
import Derived.Test.YtoodlmhnemamhaaDiskOkS
import Derived.Test.YtoodlmhnemamhaaDiskE
namespace Go.Proofs.Ytoodlmhnemamhaa
open Go.RowKit
theorem diskOk_spec_k (y : DiskR) (D : DskD) (hD : datDisk y = D) (w : World) (g : goodDisk w y) (hn : bulkDisk y ≤ 1048576) :
    Calls Try.prog 21 #[.agg #[.int .i64 y.room, .int .i64 y.fuse, .slice y.filesA y.filesN y.filesC, .slice y.waitA y.waitN y.waitC]] w fun e w' => e = .returned (.bool (diskB D.1 D.2.1 D.2.2.1 D.2.2.2)) ∧ Below w.heap.size w w' := by
  subst hD
  exact diskOk_spec_y y w (goodDisk_rd g) (goodDisk_str g) ⟨g.1, g.2.1⟩ hn
theorem diskOk_impl_k (y : DiskR) (D : DskD) (hD : datDisk y = D) (w : World) (g : goodDisk w y) (hn : bulkDisk y ≤ 1048576) :
    Calls Try.prog 23 #[.agg #[.int .i64 y.room, .int .i64 y.fuse, .slice y.filesA y.filesN y.filesC, .slice y.waitA y.waitN y.waitC]] w fun e w' => e = .returned (.bool (diskB D.1 D.2.1 D.2.2.1 D.2.2.2)) ∧ Below w.heap.size w w' := by
  subst hD
  exact diskOk_impl_y y w (goodDisk_rd g) (goodDisk_str g) ⟨g.1, g.2.1⟩ hn
end Go.Proofs.Ytoodlmhnemamhaa

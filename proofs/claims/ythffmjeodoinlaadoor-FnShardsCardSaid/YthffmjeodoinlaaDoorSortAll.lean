/- SortAll of the program and of the reference: what they compute. -/
import Derived.Test.YthffmjeodoinlaaDoorBatches
import Derived.Test.YthffmjeodoinlaaDoorMerge
namespace Go.Proofs.YthffmjeodoinlaaDoor
open Go.RowKit
set_option maxHeartbeats 800000 in
theorem sortAll_impl_k (y : Row RecR) (D : List RecR) (hD : datRecS y = D) (size : Int) (w : World) (g : rdRecS w y) (hn : bulkRecS y ≤ 1048576) (hz : In64 size) :
    Calls Tryd.prog 21 #[.slice y.a y.n y.c, .int .i64 size] w fun e w' => RetRecs (mergeF (batF D size)) w e w' := by
  have c := fun w g => batches_impl_k y D hD size w g hn hz
  unfold RetBats at c
  generalize batF D size = F at *
  go_enter Tryd.func21, Tryd.ntmps21
  go_wp2_with fail
  refine (c _ g).mono ?_
  rintro e w1 ⟨r, rfl, hd, ho, ⟨h1, h2⟩, hb⟩
  go_wp2_with fail
  refine (merge_impl_b r F hd _ ho.rd h1 h2).mono ?_
  rintro e w2 ⟨z, rfl, hdz, hoz, hkz, hb2⟩
  have hsz := hb.size
  go_wp2
  go_ret
  exact ⟨z, rfl, hdz, hoz.lo_le hsz, hkz, hb.trans (hb2.mono hb.size)⟩
end Go.Proofs.YthffmjeodoinlaaDoor

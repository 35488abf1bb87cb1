/- FnExactReadGraph: the walk of the law. -/
import Derived.Test.YtgkgbpgnbnledaaDoorRdGs
import Derived.Test.YtgkgbpgnbnledaaDoorGraphU
namespace Go.Proofs.YtgkgbpgnbnledaaDoor
open Go.RowKit
theorem box_two {w w' : World} {t : TypeId} {x y : Value} (hb : Below (w.alloc (.cells #[x, y] t)).heap.size (w.alloc (.cells #[x, y] t)) w') : w'.cell? ⟨w.heap.size, 0, none⟩ = some x ∧ w'.cell? ⟨w.heap.size, 1, none⟩ = some y ∧ Below w.heap.size w w' := by
  obtain ⟨hc, _⟩ := bcell hb
  have ha := (Below.refl w.heap.size w).alloc (Nat.le_refl _) (.cells #[x, y] t)
  exact ⟨by rw [hc _ _ (by simp)]; simp [go_sem], by rw [hc _ _ (by simp)]; simp [go_sem], ha.trans (hb.mono ha.size)⟩
set_option maxRecDepth 100000 in
set_option maxHeartbeats 6400000 in
theorem walk_FnExactReadGraph (s : ByteArray) (w : World) (hs : s.size ≤ maxLen) (hm : SomeInt 3 w) (hp : Pow Tryd.prog w) (he : Errs Tryd.prog w) :
    Calls Tryd.prog 7 #[.string s] w fun e w' => e = .returned (.bool true) ∧ Below w.heap.size w w' := by
  have hs' := hs
  unfold maxLen at hs'
  by_cases h : s.size ≤ 1048576
  · have c1 := fun w => readGraph_spec s h w
    have c2 := fun w hm hp he => readGraph_impl s h w hm hp he
    unfold RetG at c1 c2
    generalize rgD s.data.toList = D at *
    generalize (readGraphL s.data.toList).2 = C at *
    go_enter Tryd.func7, Tryd.ntmps7
    go_wp2_with fail
    refine (c1 _).mono ?_
    rintro e w1 ⟨x, rfl, hx, ox, kx, hb1⟩
    have HX := Lib.hid hx
    clear hx
    have ha1 := (Below.refl w1.heap.size w1).alloc (Nat.le_refl _) (.cells #[.int .i64 x.n, .slice x.edgesA x.edgesN x.edgesC] 36)
    have BP1 := hb1.trans (ha1.mono hb1.size)
    go_wp2_with fail
    refine (c2 _ (hm.later BP1 (Nat.le_refl _)) (hp.later BP1 (Nat.le_refl _)) (he.later BP1 (Nat.le_refl _))).mono ?_
    rintro e w2 ⟨y, rfl, hy, oy, ky, hb2⟩
    have HY := Lib.hid hy
    clear hy
    have kyb : y.edgesN ≤ 1048576 := ky
    obtain ⟨X0, X1, hx2⟩ := box_two hb2
    have BB2 := hb1.trans (hx2.mono hb1.size)
    have ox2 := ox.below hx2
    have hlX := World.block_lt_of_cell? _ _ X0
    simp only at hlX
    have oy2 := oy.lo_le (lo' := w1.heap.size + 1) (by simp)
    have ha2 := (Below.refl w2.heap.size w2).alloc (Nat.le_refl _) (.cells #[.int .i64 y.n, .slice y.edgesA y.edgesN y.edgesC] 36)
    clear hb2 oy ha1 BP1
    go_wp2_with fail
    refine (eqGraph_k y x D D HY.out HX.out _ ((oy2.below ha2).row.rd lenEdge) ((ox2.below ha2).row.rd lenEdge)).mono ?_
    rintro e w3 ⟨rfl, hb3⟩
    rw [show decide (D = D) = true from by simp]
    obtain ⟨Y0, Y1, hx3⟩ := box_two hb3
    have BB3 := BB2.trans (hx3.mono BB2.size)
    have oy3 := oy2.below hx3
    have ox3 := ox2.below hx3
    have X03 := cell_later hx3 X0
    have X13 := cell_later hx3 X1
    clear hb3 ha2 X0 X1 oy2 ox2 hlX
    go_wp2_with fail
    refine (markGraph_u y 1 _ _ _ oy3 kyb (by omega) (by omega)).mono ?_
    rintro e w4 ⟨rfl, oy4, hw4⟩
    have hs3 := hx3.size
    have hs2 := hx2.size
    have ox4 := ox3.win hw4 (Or.inr (by omega))
    have BB4 : Below w.heap.size w w4 := BB3.trans (hw4.below (by have := hb1.size; omega) BB3.size)
    have X04 := cell_win hw4 X03 (Or.inl (by omega))
    have X14 := cell_win hw4 X13 (Or.inl (by omega))
    have Y04 := cell_win hw4 Y0 (Or.inr (Nat.le_refl _))
    have Y14 := cell_win hw4 Y1 (Or.inr (Nat.le_refl _))
    clear X03 X13 Y0 Y1 oy3 ox3
    go_wp2_with fail
    refine (heldGraph_u y 1 _ (oy4.rd lenEdge) kyb (by omega) (by omega)).mono ?_
    rintro e w5 ⟨rfl, hb5⟩
    have BB5 := BB4.trans (hb5.mono BB4.size)
    have oy5 := oy4.below hb5
    have ox5 := ox4.below hb5
    have X05 := cell_later hb5 X04
    have X15 := cell_later hb5 X14
    have Y05 := cell_later hb5 Y04
    have Y15 := cell_later hb5 Y14
    clear X04 X14 Y04 Y14 oy4 ox4
    go_wp2_with fail
    refine (c2 _ (hm.later BB5 (Nat.le_refl _)) (hp.later BB5 (Nat.le_refl _)) (he.later BB5 (Nat.le_refl _))).mono ?_
    rintro e w6 ⟨z, rfl, hz, oz, kz, hb6⟩
    have HZ := Lib.hid hz
    clear hz
    have BB6 := BB5.trans (hb6.mono BB5.size)
    have oy6 := oy5.below hb6
    have ox6 := ox5.below hb6
    have X06 := cell_later hb6 X05
    have X16 := cell_later hb6 X15
    have Y06 := cell_later hb6 Y05
    have Y16 := cell_later hb6 Y15
    have hlX := World.block_lt_of_cell? _ _ X06
    have hlY := World.block_lt_of_cell? _ _ Y06
    simp only at hlX hlY
    have ha6 := (Below.refl w6.heap.size w6).alloc (Nat.le_refl _) (.cells #[.int .i64 z.n, .slice z.edgesA z.edgesN z.edgesC] 36)
    clear X05 X15 Y05 Y15 oy5 ox5
    go_wp2_with fail
    refine (eqGraph_k z x D D HZ.out HX.out _ ((oz.below ha6).row.rd lenEdge) ((ox6.below ha6).row.rd lenEdge)).mono ?_
    rintro e w7 ⟨rfl, hb7⟩
    rw [show decide (D = D) = true from by simp]
    obtain ⟨Z0, Z1, hx7⟩ := box_two hb7
    have BB7 := BB6.trans (hx7.mono BB6.size)
    have oy7 := oy6.below hx7
    have Y07 := cell_later hx7 Y06
    have Y17 := cell_later hx7 Y16
    clear X06 X16 Y06 Y16 oy6 ox6 hb7 ha6 hlX hlY
    go_wp2_with fail
    refine (heldGraph_u y 1 _ (oy7.rd lenEdge) kyb (by omega) (by omega)).mono ?_
    rintro e w8 ⟨rfl, hb8⟩
    have BB8 := BB7.trans (hb8.mono BB7.size)
    go_wp2
    go_ret
    exact ⟨rfl, BB8⟩
  · have hs2 : ¬ (s.size : Int) ≤ 1048576 := by omega
    go_enter Tryd.func7, Tryd.ntmps7
    go_wp2
    go_ret
    exact ⟨rfl, Below.refl _ _⟩
end Go.Proofs.YtgkgbpgnbnledaaDoor

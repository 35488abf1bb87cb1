/- FnExactDiskNew: the walk of the law. -/
import Derived.Test.YtoodlmhnemamhaaRows
import Derived.Test.YtoodlmhnemamhaaLib
import Derived.Test.YtoodlmhnemamhaaKeep
namespace Go.Proofs.Ytoodlmhnemamhaa
open Go.RowKit
set_option maxRecDepth 100000 in
theorem eqFileS_nil (w : World) : Calls Try.prog 40 #[.slice none 0 0, .slice none 0 0] w fun e w' => e = .returned (.bool true) ∧ Below w.heap.size w w' := by
  go_enter Try.func40, Try.ntmps40
  go_wp2
  refine wp_loop_rounds 1 ?_
  rw [rounds_succ]
  go_wp2
  go_ret
  exact ⟨rfl, Below.refl _ _⟩
set_option maxRecDepth 100000 in
theorem markFileS_nil (k : Int) (w : World) : Calls Try.prog 42 #[.slice none 0 0, .int .i64 k] w fun e w' => e = .returned (.int .i64 k) ∧ Below w.heap.size w w' := by
  go_enter Try.func42, Try.ntmps42
  go_wp2
  refine wp_loop_rounds 1 ?_
  rw [rounds_succ]
  go_wp2
  go_ret
  exact ⟨rfl, Below.refl _ _⟩
set_option maxRecDepth 100000 in
theorem heldFileS_nil (k : Int) (w : World) : Calls Try.prog 44 #[.slice none 0 0, .int .i64 k] w fun e w' => e = .returned (.int .i64 k) ∧ Below w.heap.size w w' := by
  go_enter Try.func44, Try.ntmps44
  go_wp2
  refine wp_loop_rounds 1 ?_
  rw [rounds_succ]
  go_wp2
  go_ret
  exact ⟨rfl, Below.refl _ _⟩
set_option maxRecDepth 100000 in
theorem eqFsOpS_nil (w : World) : Calls Try.prog 41 #[.slice none 0 0, .slice none 0 0] w fun e w' => e = .returned (.bool true) ∧ Below w.heap.size w w' := by
  go_enter Try.func41, Try.ntmps41
  go_wp2
  refine wp_loop_rounds 1 ?_
  rw [rounds_succ]
  go_wp2
  go_ret
  exact ⟨rfl, Below.refl _ _⟩
set_option maxRecDepth 100000 in
theorem markFsOpS_nil (k : Int) (w : World) : Calls Try.prog 43 #[.slice none 0 0, .int .i64 k] w fun e w' => e = .returned (.int .i64 k) ∧ Below w.heap.size w w' := by
  go_enter Try.func43, Try.ntmps43
  go_wp2
  refine wp_loop_rounds 1 ?_
  rw [rounds_succ]
  go_wp2
  go_ret
  exact ⟨rfl, Below.refl _ _⟩
set_option maxRecDepth 100000 in
theorem heldFsOpS_nil (k : Int) (w : World) : Calls Try.prog 45 #[.slice none 0 0, .int .i64 k] w fun e w' => e = .returned (.int .i64 k) ∧ Below w.heap.size w w' := by
  go_enter Try.func45, Try.ntmps45
  go_wp2
  refine wp_loop_rounds 1 ?_
  rw [rounds_succ]
  go_wp2
  go_ret
  exact ⟨rfl, Below.refl _ _⟩
set_option maxRecDepth 100000 in
set_option maxHeartbeats 800000 in
theorem eqDisk_new (r f : Int) (w : World) : Calls Try.prog 17 #[.agg #[.int .i64 r, .int .i64 f, .slice none 0 0, .slice none 0 0], .agg #[.int .i64 r, .int .i64 f, .slice none 0 0, .slice none 0 0]] w fun e w' => e = .returned (.bool true) ∧ Below w.heap.size w w' := by
  have hb0 := ((Below.refl w.heap.size w).alloc (Nat.le_refl _) (.cells #[.int .i64 r, .int .i64 f, .slice none 0 0, .slice none 0 0] 34)).alloc (by simp) (.cells #[.int .i64 r, .int .i64 f, .slice none 0 0, .slice none 0 0] 34)
  go_enter Try.func17, Try.ntmps17
  go_wp2_with fail
  refine (eqFileS_nil _).mono ?_
  rintro e w1 ⟨rfl, hb1⟩
  obtain ⟨hc, hf⟩ := bcell hb1
  have ca0 : w1.cell? ⟨w.heap.size, 0, none⟩ = some (.int .i64 r) := by rw [hc _ _ (by simp <;> omega)]; simp [go_sem]
  have ca1 : w1.cell? ⟨w.heap.size, 1, none⟩ = some (.int .i64 f) := by rw [hc _ _ (by simp <;> omega)]; simp [go_sem]
  have ca2 : w1.cell? ⟨w.heap.size, 2, none⟩ = some (.slice none 0 0) := by rw [hc _ _ (by simp <;> omega)]; simp [go_sem]
  have ca3 : w1.cell? ⟨w.heap.size, 3, none⟩ = some (.slice none 0 0) := by rw [hc _ _ (by simp <;> omega)]; simp [go_sem]
  have cb0 : w1.cell? ⟨w.heap.size + 1, 0, none⟩ = some (.int .i64 r) := by rw [hc _ _ (by simp <;> omega)]; simp [go_sem]
  have cb1 : w1.cell? ⟨w.heap.size + 1, 1, none⟩ = some (.int .i64 f) := by rw [hc _ _ (by simp <;> omega)]; simp [go_sem]
  have cb2 : w1.cell? ⟨w.heap.size + 1, 2, none⟩ = some (.slice none 0 0) := by rw [hc _ _ (by simp <;> omega)]; simp [go_sem]
  have cb3 : w1.cell? ⟨w.heap.size + 1, 3, none⟩ = some (.slice none 0 0) := by rw [hc _ _ (by simp <;> omega)]; simp [go_sem]
  clear hc hf
  go_wp2_with fail
  refine (eqFsOpS_nil _).mono ?_
  rintro e w2 ⟨rfl, hb2⟩
  have BB := hb0.trans ((hb1.mono (by simp; omega)).trans (hb2.mono (by have := hb1.size; simp at this; omega)))
  go_wp2
  go_ret
  exact ⟨rfl, BB⟩
set_option maxRecDepth 100000 in
set_option maxHeartbeats 800000 in
theorem markDisk_new (r f : Int) (k : Int) (_hk : 0 ≤ k) (w : World) : Calls Try.prog 18 #[.agg #[.int .i64 r, .int .i64 f, .slice none 0 0, .slice none 0 0], .int .i64 k] w fun e w' => e = .returned (.int .i64 k) ∧ Below w.heap.size w w' := by
  have hb0 := ((Below.refl w.heap.size w).alloc (Nat.le_refl _) (.cells #[.int .i64 r, .int .i64 f, .slice none 0 0, .slice none 0 0] 34))
  go_enter Try.func18, Try.ntmps18
  go_wp2_with fail
  refine (markFileS_nil k _).mono ?_
  rintro e w1 ⟨rfl, hb1⟩
  obtain ⟨hc, hf⟩ := bcell hb1
  have ca0 : w1.cell? ⟨w.heap.size, 0, none⟩ = some (.int .i64 r) := by rw [hc _ _ (by simp <;> omega)]; simp [go_sem]
  have ca1 : w1.cell? ⟨w.heap.size, 1, none⟩ = some (.int .i64 f) := by rw [hc _ _ (by simp <;> omega)]; simp [go_sem]
  have ca2 : w1.cell? ⟨w.heap.size, 2, none⟩ = some (.slice none 0 0) := by rw [hc _ _ (by simp <;> omega)]; simp [go_sem]
  have ca3 : w1.cell? ⟨w.heap.size, 3, none⟩ = some (.slice none 0 0) := by rw [hc _ _ (by simp <;> omega)]; simp [go_sem]
  clear hc hf
  go_wp2_with fail
  refine (markFsOpS_nil k _).mono ?_
  rintro e w2 ⟨rfl, hb2⟩
  have BB := hb0.trans ((hb1.mono (by simp)).trans (hb2.mono (by have := hb1.size; simp at this; omega)))
  go_wp2
  go_ret
  exact ⟨rfl, BB⟩
set_option maxRecDepth 100000 in
set_option maxHeartbeats 800000 in
theorem heldDisk_new (r f : Int) (k : Int) (_hk : 0 ≤ k) (w : World) : Calls Try.prog 19 #[.agg #[.int .i64 r, .int .i64 f, .slice none 0 0, .slice none 0 0], .int .i64 k] w fun e w' => e = .returned (.int .i64 k) ∧ Below w.heap.size w w' := by
  have hb0 := ((Below.refl w.heap.size w).alloc (Nat.le_refl _) (.cells #[.int .i64 r, .int .i64 f, .slice none 0 0, .slice none 0 0] 34))
  go_enter Try.func19, Try.ntmps19
  go_wp2_with fail
  refine (heldFileS_nil k _).mono ?_
  rintro e w1 ⟨rfl, hb1⟩
  obtain ⟨hc, hf⟩ := bcell hb1
  have ca0 : w1.cell? ⟨w.heap.size, 0, none⟩ = some (.int .i64 r) := by rw [hc _ _ (by simp <;> omega)]; simp [go_sem]
  have ca1 : w1.cell? ⟨w.heap.size, 1, none⟩ = some (.int .i64 f) := by rw [hc _ _ (by simp <;> omega)]; simp [go_sem]
  have ca2 : w1.cell? ⟨w.heap.size, 2, none⟩ = some (.slice none 0 0) := by rw [hc _ _ (by simp <;> omega)]; simp [go_sem]
  have ca3 : w1.cell? ⟨w.heap.size, 3, none⟩ = some (.slice none 0 0) := by rw [hc _ _ (by simp <;> omega)]; simp [go_sem]
  clear hc hf
  go_wp2_with fail
  refine (heldFsOpS_nil k _).mono ?_
  rintro e w2 ⟨rfl, hb2⟩
  have BB := hb0.trans ((hb1.mono (by simp)).trans (hb2.mono (by have := hb1.size; simp at this; omega)))
  go_wp2
  go_ret
  exact ⟨rfl, BB⟩
set_option maxRecDepth 100000 in
set_option maxHeartbeats 800000 in
theorem diskNew_impl_yes (n : Int) (w : World) (h0 : 0 ≤ n) (h1 : n ≤ 200000) : Calls Try.prog 16 #[.int .i64 n] w fun e w' => e = .returned (.tuple #[.agg #[.int .i64 n, .int .i64 (-1), .slice none 0 0, .slice none 0 0], .bool true]) ∧ Below w.heap.size w w' := by
  have hb0 := (Below.refl w.heap.size w).alloc (Nat.le_refl _) (.cells #[.int .i64 n, .int .i64 (-1), .slice none 0 0, .slice none 0 0] 34)
  go_enter Try.func16, Try.ntmps16
  go_wp2
  refine bodyPost_ret (v := .tuple #[.agg #[.int .i64 n, .int .i64 (-1), .slice none 0 0, .slice none 0 0], .bool true]) (by simp [results, Try.results16, go_sem]) rfl ?_
  exact ⟨rfl, hb0⟩
set_option maxRecDepth 100000 in
set_option maxHeartbeats 800000 in
theorem diskNew_impl_no (n : Int) (w : World) (h : n < 0 ∨ 200000 < n) : Calls Try.prog 16 #[.int .i64 n] w fun e w' => e = .returned (.tuple #[.agg #[.int .i64 0, .int .i64 0, .slice none 0 0, .slice none 0 0], .bool false]) ∧ Below w.heap.size w w' := by
  have hb0 := (Below.refl w.heap.size w).alloc (Nat.le_refl _) (.cells #[.int .i64 0, .int .i64 0, .slice none 0 0, .slice none 0 0] 34)
  by_cases h0 : n < 0
  · clear h
    go_enter Try.func16, Try.ntmps16
    go_wp2
    refine bodyPost_ret (v := .tuple #[.agg #[.int .i64 0, .int .i64 0, .slice none 0 0, .slice none 0 0], .bool false]) (by simp [results, Try.results16, go_sem]) rfl ?_
    exact ⟨rfl, hb0⟩
  · have h1 : 200000 < n := by omega
    clear h
    go_enter Try.func16, Try.ntmps16
    go_wp2
    refine bodyPost_ret (v := .tuple #[.agg #[.int .i64 0, .int .i64 0, .slice none 0 0, .slice none 0 0], .bool false]) (by simp [results, Try.results16, go_sem]) rfl ?_
    exact ⟨rfl, hb0⟩
set_option maxRecDepth 100000 in
set_option maxHeartbeats 800000 in
theorem diskNew_spec_yes (n : Int) (w : World) (h0 : 0 ≤ n) (h1 : n ≤ 200000) : Calls Try.prog 15 #[.int .i64 n] w fun e w' => e = .returned (.tuple #[.agg #[.int .i64 n, .int .i64 (-1), .slice none 0 0, .slice none 0 0], .bool true]) ∧ Below w.heap.size w w' := by
  have hb0 := (Below.refl w.heap.size w).alloc (Nat.le_refl _) (.cells #[.int .i64 n, .int .i64 (-1), .slice none 0 0, .slice none 0 0] 34)
  go_enter Try.func15, Try.ntmps15
  go_wp2
  refine bodyPost_ret (v := .tuple #[.agg #[.int .i64 n, .int .i64 (-1), .slice none 0 0, .slice none 0 0], .bool true]) (by simp [results, Try.results15, go_sem]) rfl ?_
  exact ⟨rfl, hb0⟩
set_option maxRecDepth 100000 in
set_option maxHeartbeats 800000 in
theorem diskNew_spec_no (n : Int) (w : World) (h : n < 0 ∨ 200000 < n) : Calls Try.prog 15 #[.int .i64 n] w fun e w' => e = .returned (.tuple #[.agg #[.int .i64 0, .int .i64 0, .slice none 0 0, .slice none 0 0], .bool false]) ∧ Below w.heap.size w w' := by
  have hb0 := (Below.refl w.heap.size w).alloc (Nat.le_refl _) (.cells #[.int .i64 0, .int .i64 0, .slice none 0 0, .slice none 0 0] 34)
  by_cases h0 : n < 0
  · clear h
    go_enter Try.func15, Try.ntmps15
    go_wp2
    refine bodyPost_ret (v := .tuple #[.agg #[.int .i64 0, .int .i64 0, .slice none 0 0, .slice none 0 0], .bool false]) (by simp [results, Try.results15, go_sem]) rfl ?_
    exact ⟨rfl, hb0⟩
  · have h1 : 200000 < n := by omega
    clear h
    go_enter Try.func15, Try.ntmps15
    go_wp2
    refine bodyPost_ret (v := .tuple #[.agg #[.int .i64 0, .int .i64 0, .slice none 0 0, .slice none 0 0], .bool false]) (by simp [results, Try.results15, go_sem]) rfl ?_
    exact ⟨rfl, hb0⟩
structure BoxD (w : World) (b : Nat) (r f : Int) : Prop where
  c0 : w.cell? ⟨b, 0, none⟩ = some (.int .i64 r)
  c1 : w.cell? ⟨b, 1, none⟩ = some (.int .i64 f)
  c2 : w.cell? ⟨b, 2, none⟩ = some (.slice none 0 0)
  c3 : w.cell? ⟨b, 3, none⟩ = some (.slice none 0 0)
theorem BoxD.below {w w' : World} {b : Nat} {r f : Int} (h : BoxD w b r f) (hb : Below w.heap.size w w') : BoxD w' b r f := ⟨cell_later hb h.c0, cell_later hb h.c1, cell_later hb h.c2, cell_later hb h.c3⟩
theorem BoxD.new (w : World) (r f : Int) (t : TypeId) : BoxD (w.alloc (.cells #[.int .i64 r, .int .i64 f, .slice none 0 0, .slice none 0 0] t)) w.heap.size r f := ⟨by simp [go_sem], by simp [go_sem], by simp [go_sem], by simp [go_sem]⟩
set_option maxRecDepth 100000 in
set_option linter.unusedVariables false in
set_option maxHeartbeats 3200000 in
theorem walk_FnExactDiskNew (x0 : Int) (w : World) (g0 : In64 x0) :
    Calls Try.prog 4 #[.int .i64 x0] w fun e w' => e = .returned (.bool true) ∧ Below w.heap.size w w' := by
  by_cases h : 0 ≤ x0 ∧ x0 ≤ 200000
  · obtain ⟨h0, h1⟩ := h
    go_enter Try.func4, Try.ntmps4
    go_wp2_with fail
    refine (diskNew_spec_yes x0 _ h0 h1).mono ?_
    rintro e w1 ⟨rfl, hb1⟩
    have ha1 := (Below.refl w1.heap.size w1).alloc (Nat.le_refl _) (.cells #[.int .i64 x0, .int .i64 (-1), .slice none 0 0, .slice none 0 0] 34)
    have HW := Lib.hid (BoxD.new w1 x0 (-1) 34)
    have BB1 := hb1.alloc hb1.size (.cells #[.int .i64 x0, .int .i64 (-1), .slice none 0 0, .slice none 0 0] 34)
    go_wp2_with fail
    refine (diskNew_impl_yes x0 _ h0 h1).mono ?_
    rintro e w2 ⟨rfl, hb2⟩
    have BB2 := (BB1.trans (hb2.mono BB1.size)).alloc (Nat.le_trans BB1.size hb2.size) (.cells #[.int .i64 x0, .int .i64 (-1), .slice none 0 0, .slice none 0 0] 34)
    have ha2 := (Below.refl w2.heap.size w2).alloc (Nat.le_refl _) (.cells #[.int .i64 x0, .int .i64 (-1), .slice none 0 0, .slice none 0 0] 34)
    have HW2 := Lib.hid (HW.out.below hb2)
    have HG := Lib.hid (BoxD.new w2 x0 (-1) 34)
    obtain ⟨p0, p1, p2, p3⟩ := HW2.out
    have hl2 := World.block_lt_of_cell? _ _ p0
    simp only at hl2
    clear hb1 ha1
    go_wp2_with fail
    refine (eqDisk_new x0 (-1) _).mono ?_
    rintro e w3 ⟨rfl, hb3⟩
    have BB3 := BB2.trans (hb3.mono BB2.size)
    have HW3 := Lib.hid ((HW2.out.below ha2).below hb3)
    have HG3 := Lib.hid (HG.out.below hb3)
    clear p0 p1 p2 p3 hl2 hb2 ha2
    obtain ⟨p0, p1, p2, p3⟩ := HW3.out
    obtain ⟨q0, q1, q2, q3⟩ := HG3.out
    go_wp2_with fail
    refine (markDisk_new x0 (-1) 1 (by decide) _).mono ?_
    rintro e w4 ⟨rfl, hb4⟩
    have BB4 := BB3.trans (hb4.mono BB3.size)
    have HW4 := Lib.hid (HW3.out.below hb4)
    have HG4 := Lib.hid (HG3.out.below hb4)
    clear p0 p1 p2 p3 q0 q1 q2 q3
    obtain ⟨p0, p1, p2, p3⟩ := HW4.out
    obtain ⟨q0, q1, q2, q3⟩ := HG4.out
    go_wp2_with fail
    refine (heldDisk_new x0 (-1) 1 (by decide) _).mono ?_
    rintro e w5 ⟨rfl, hb5⟩
    have BB5 := BB4.trans (hb5.mono BB4.size)
    have HW5 := Lib.hid (HW4.out.below hb5)
    have HG5 := Lib.hid (HG4.out.below hb5)
    clear p0 p1 p2 p3 q0 q1 q2 q3
    go_wp2_with fail
    refine (diskNew_impl_yes x0 _ h0 h1).mono ?_
    rintro e w6 ⟨rfl, hb6⟩
    have BB6 := (BB5.trans (hb6.mono BB5.size)).alloc (Nat.le_trans BB5.size hb6.size) (.cells #[.int .i64 x0, .int .i64 (-1), .slice none 0 0, .slice none 0 0] 34)
    have ha6 := (Below.refl w6.heap.size w6).alloc (Nat.le_refl _) (.cells #[.int .i64 x0, .int .i64 (-1), .slice none 0 0, .slice none 0 0] 34)
    have HW6 := Lib.hid (HW5.out.below hb6)
    have HG6 := Lib.hid (HG5.out.below hb6)
    obtain ⟨p0, p1, p2, p3⟩ := HW6.out
    have hl6 := World.block_lt_of_cell? _ _ p0
    simp only at hl6
    go_wp2_with fail
    refine (eqDisk_new x0 (-1) _).mono ?_
    rintro e w7 ⟨rfl, hb7⟩
    have BB7 := BB6.trans (hb7.mono BB6.size)
    have HG7 := Lib.hid ((HG6.out.below ha6).below hb7)
    clear p0 p1 p2 p3 hl6
    obtain ⟨q0, q1, q2, q3⟩ := HG7.out
    go_wp2_with fail
    refine (heldDisk_new x0 (-1) 1 (by decide) _).mono ?_
    rintro e w8 ⟨rfl, hb8⟩
    have BB8 := BB7.trans (hb8.mono BB7.size)
    go_wp2
    go_ret
    exact ⟨rfl, BB8⟩
  · have h' : x0 < 0 ∨ 200000 < x0 := by omega
    have HH := Lib.hid h'
    clear h h'
    go_enter Try.func4, Try.ntmps4
    go_wp2_with fail
    refine (diskNew_spec_no x0 _ HH.out).mono ?_
    rintro e w1 ⟨rfl, hb1⟩
    have ha1 := (Below.refl w1.heap.size w1).alloc (Nat.le_refl _) (.cells #[.int .i64 0, .int .i64 0, .slice none 0 0, .slice none 0 0] 34)
    have HW := Lib.hid (BoxD.new w1 0 0 34)
    have BB1 := hb1.alloc hb1.size (.cells #[.int .i64 0, .int .i64 0, .slice none 0 0, .slice none 0 0] 34)
    go_wp2_with fail
    refine (diskNew_impl_no x0 _ HH.out).mono ?_
    rintro e w2 ⟨rfl, hb2⟩
    have BB2 := (BB1.trans (hb2.mono BB1.size)).alloc (Nat.le_trans BB1.size hb2.size) (.cells #[.int .i64 0, .int .i64 0, .slice none 0 0, .slice none 0 0] 34)
    have ha2 := (Below.refl w2.heap.size w2).alloc (Nat.le_refl _) (.cells #[.int .i64 0, .int .i64 0, .slice none 0 0, .slice none 0 0] 34)
    have HW2 := Lib.hid (HW.out.below hb2)
    have HG := Lib.hid (BoxD.new w2 0 0 34)
    obtain ⟨p0, p1, p2, p3⟩ := HW2.out
    have hl2 := World.block_lt_of_cell? _ _ p0
    simp only at hl2
    clear hb1 ha1
    go_wp2_with fail
    refine (eqDisk_new 0 0 _).mono ?_
    rintro e w3 ⟨rfl, hb3⟩
    have BB3 := BB2.trans (hb3.mono BB2.size)
    have HW3 := Lib.hid ((HW2.out.below ha2).below hb3)
    have HG3 := Lib.hid (HG.out.below hb3)
    clear p0 p1 p2 p3 hl2 hb2 ha2
    obtain ⟨p0, p1, p2, p3⟩ := HW3.out
    obtain ⟨q0, q1, q2, q3⟩ := HG3.out
    go_wp2_with fail
    refine (markDisk_new 0 0 1 (by decide) _).mono ?_
    rintro e w4 ⟨rfl, hb4⟩
    have BB4 := BB3.trans (hb4.mono BB3.size)
    have HW4 := Lib.hid (HW3.out.below hb4)
    have HG4 := Lib.hid (HG3.out.below hb4)
    clear p0 p1 p2 p3 q0 q1 q2 q3
    obtain ⟨p0, p1, p2, p3⟩ := HW4.out
    obtain ⟨q0, q1, q2, q3⟩ := HG4.out
    go_wp2_with fail
    refine (heldDisk_new 0 0 1 (by decide) _).mono ?_
    rintro e w5 ⟨rfl, hb5⟩
    have BB5 := BB4.trans (hb5.mono BB4.size)
    have HW5 := Lib.hid (HW4.out.below hb5)
    have HG5 := Lib.hid (HG4.out.below hb5)
    clear p0 p1 p2 p3 q0 q1 q2 q3
    go_wp2_with fail
    refine (diskNew_impl_no x0 _ HH.out).mono ?_
    rintro e w6 ⟨rfl, hb6⟩
    have BB6 := (BB5.trans (hb6.mono BB5.size)).alloc (Nat.le_trans BB5.size hb6.size) (.cells #[.int .i64 0, .int .i64 0, .slice none 0 0, .slice none 0 0] 34)
    have ha6 := (Below.refl w6.heap.size w6).alloc (Nat.le_refl _) (.cells #[.int .i64 0, .int .i64 0, .slice none 0 0, .slice none 0 0] 34)
    have HW6 := Lib.hid (HW5.out.below hb6)
    have HG6 := Lib.hid (HG5.out.below hb6)
    obtain ⟨p0, p1, p2, p3⟩ := HW6.out
    have hl6 := World.block_lt_of_cell? _ _ p0
    simp only at hl6
    go_wp2_with fail
    refine (eqDisk_new 0 0 _).mono ?_
    rintro e w7 ⟨rfl, hb7⟩
    have BB7 := BB6.trans (hb7.mono BB6.size)
    have HG7 := Lib.hid ((HG6.out.below ha6).below hb7)
    clear p0 p1 p2 p3 hl6
    obtain ⟨q0, q1, q2, q3⟩ := HG7.out
    go_wp2_with fail
    refine (heldDisk_new 0 0 1 (by decide) _).mono ?_
    rintro e w8 ⟨rfl, hb8⟩
    have BB8 := BB7.trans (hb8.mono BB7.size)
    go_wp2
    go_ret
    exact ⟨rfl, BB8⟩
end Go.Proofs.Ytoodlmhnemamhaa

/- szByteS, szFrame, toFrame, eqFrame of the statements: what each call does. -/
import Derived.Test.YtkgalkaafocnjaaTyFrame
import Derived.Test.YtkgalkaafocnjaaByteS
import Derived.Test.YtkgalkaafocnjaaSzB
import Derived.Test.YtkgalkaafocnjaaKeep
namespace Go.Proofs.Ytkgalkaafocnjaa
open Go.RowKit
set_option maxHeartbeats 400000 in
theorem szFrame_any (y : FrameR) (left : Int) (w : World) (g : goodFrame w y) (h1 : 0 ≤ left) (h2 : left ≤ 1048576) :
    Calls Try.prog 31 #[.agg #[.int .i64 y.kind, .slice y.dataA y.dataN y.dataC], .int .i64 left] w fun e w' => e = .returned (.int .i64 (leftB left y.dataN)) ∧ Below w.heap.size w w' := by
  obtain ⟨kind, da, dn, dc, d⟩ := y
  obtain ⟨g1, g2, g3⟩ := g
  have hle := g2.le
  have hm := g2.max
  unfold maxLen at hm
  simp only at *
  by_cases h : left < dn
  · have HL := Lib.hid (leftB_no h)
    go_enter Try.func31, Try.ntmps31
    go_wp2_with fail
    refine (szByteS_any _ _ _ _ _ h1 h2 (by omega)).mono ?_
    rintro e w1 ⟨rfl, hb⟩
    rw [HL.out]
    go_wp2
    go_ret
    exact ⟨by rw [HL.out]; rfl, ((Below.refl _ _).alloc (Nat.le_refl _) _).trans (hb.mono (by simp))⟩
  · have HL := Lib.hid (leftB_yes h)
    go_enter Try.func31, Try.ntmps31
    go_wp2_with fail
    refine (szByteS_any _ _ _ _ _ h1 h2 (by omega)).mono ?_
    rintro e w1 ⟨rfl, hb⟩
    rw [HL.out]
    go_wp2
    go_ret
    exact ⟨by rw [HL.out]; rfl, ((Below.refl _ _).alloc (Nat.le_refl _) _).trans (hb.mono (by simp))⟩

/-- toFrame's end. -/
def RetFrame (y : FrameR) (w : World) (en : Ending) (w' : World) : Prop := ∃ q : Nat, en = .returned (.agg #[.int .i64 y.kind, .slice (some ⟨q, 0, none⟩) y.dataN y.dataN]) ∧ OwnI .u8 5 w.heap.size w'.heap.size w' (some ⟨q, 0, none⟩) y.dataN y.dataN y.data ∧ Below w.heap.size w w'
set_option maxHeartbeats 400000 in
theorem toFrame_any (y : FrameR) (w : World) (g : goodFrame w y) (hn : y.dataN ≤ 1048576) :
    Calls Try.prog 33 #[.agg #[.int .i64 y.kind, .slice y.dataA y.dataN y.dataC]] w fun e w' => RetFrame y w e w' := by
  obtain ⟨kind, da, dn, dc, d⟩ := y
  obtain ⟨g1, g2, g3⟩ := g
  have HR : Hid (∀ en w', RetFrame ⟨kind, da, dn, dc, d⟩ w en w' = ∃ q : Nat, en = .returned (.agg #[.int .i64 kind, .slice (some ⟨q, 0, none⟩) dn dn]) ∧ OwnI .u8 5 w.heap.size w'.heap.size w' (some ⟨q, 0, none⟩) dn dn d ∧ Below w.heap.size w w') := fun _ _ => rfl
  simp only at *
  go_enter Try.func33, Try.ntmps33
  go_wp2_with fail
  have hb0 := (((Below.refl w.heap.size w).alloc (Nat.le_refl _) (.cells #[.int .i64 kind, .slice da dn dc] 40)).alloc (by simp) (.cells #[.int .i64 0, .slice none 0 0] 43)).alloc (by simp; omega) (.cells #[.int .i64 kind, .slice none 0 0] 43)
  refine (toByteS_any _ _ _ d _ (g2.below hb0 (Nat.le_refl _)) hn).mono ?_
  rintro e w1 ⟨q, rfl, ho, hb⟩
  obtain ⟨hc, hf⟩ := bcell hb
  go_wp2
  have hz : w.heap.size + 2 < w1.heap.size := by have := hb.size; simp at this; omega
  refine bodyPost_ret (v := .agg #[.int .i64 kind, .slice (some ⟨q, 0, none⟩) dn dn]) (by simp [results, Try.results33, go_sem, hc]) rfl ?_
  have hlo := ho.lo_le (lo' := w.heap.size + 3) (by simp)
  have hw := ((Win.set (lo := w.heap.size + 1) (hi := w.heap.size + 3) w1 (w.heap.size + 1 + 1) 1 (.slice (some ⟨q, 0, none⟩) dn dn) (by omega) (by omega)).trans (Win.set _ (w.heap.size + 1) 0 (.int .i64 kind) (by omega) (by omega))).trans (Win.set _ (w.heap.size + 1) 1 (.slice (some ⟨q, 0, none⟩) dn dn) (by omega) (by omega))
  exact ⟨q, rfl, ((hlo.win hw (Or.inl (Nat.le_refl _))).lo_le (by omega)).grow (by simp only [size_set]; exact Nat.le_refl _) (Nat.le_refl _), (hb0.trans (hb.mono (by simp; omega))).trans (hw.below (by omega) (by omega))⟩
set_option maxHeartbeats 400000 in
theorem eqFrame_any (k1 k2 : Int) (a b : Option Addr) (n cap m cap' : Nat) (xs ys : List Int) (w : World) (h : Rd (encI .u8) 1 w a n cap xs) (h' : Rd (encI .u8) 1 w b m cap' ys) :
    Calls Try.prog 35 #[.agg #[.int .i64 k1, .slice a n cap], .agg #[.int .i64 k2, .slice b m cap']] w fun e w' => e = .returned (.bool (decide (k1 = k2) && decide (xs = ys))) ∧ Below w.heap.size w w' := by
  have hb0 := ((Below.refl w.heap.size w).alloc (Nat.le_refl _) (.cells #[.int .i64 k1, .slice a n cap] 43)).alloc (by simp) (.cells #[.int .i64 k2, .slice b m cap'] 43)
  by_cases hk : k1 = k2
  · subst hk
    go_enter Try.func35, Try.ntmps35
    go_wp2_with fail
    refine (eqByteS_any _ _ _ _ _ _ xs ys _ (h.below hb0 (Nat.le_refl _)) (h'.below hb0 (Nat.le_refl _))).mono ?_
    rintro e w1 ⟨rfl, hb⟩
    by_cases he : xs = ys
    · have HE := Lib.hid (decide_eq_true he)
      rw [HE.out]
      clear he
      go_wp2
      go_ret
      exact ⟨by rw [HE.out]; simp, hb0.trans (hb.mono (by simp; omega))⟩
    · have HE := Lib.hid (decide_eq_false he)
      rw [HE.out]
      clear he
      go_wp2
      go_ret
      exact ⟨by rw [HE.out]; simp, hb0.trans (hb.mono (by simp; omega))⟩
  · have hk1 : (k1 != k2) = true := by simp [hk]
    go_enter Try.func35, Try.ntmps35
    go_wp2
    go_ret
    exact ⟨by simp [hk], hb0⟩
end Go.Proofs.Ytkgalkaafocnjaa

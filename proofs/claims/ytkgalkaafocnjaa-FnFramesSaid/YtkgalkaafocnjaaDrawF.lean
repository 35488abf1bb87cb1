/- MakeFrames: at most four frames that are right. -/
import Derived.Test.YtkgalkaafocnjaaDraw
import Derived.Test.YtkgalkaafocnjaaFramesRead
namespace Go.Proofs.Ytkgalkaafocnjaa
open Go.RowKit
def rightFrame (x : FrameR) : Prop := (1 ≤ x.kind ∧ x.kind ≤ 3) ∧ (∀ z ∈ x.data, In8 z) ∧ x.dataN ≤ 9
def FrsM (B R : Nat) (a : Option Addr) (n cap N : Nat) (w : World) (o i : Value) (wr : World) : Prop := ∃ (k : Nat) (y : Row FrameR), i = .int .i64 k ∧ k + y.n = N ∧ o = .slice y.a y.n y.c ∧ OwnFrameS B wr.heap.size wr y ∧ (∀ x ∈ y.l, rightFrame x) ∧ Cur wr R a n cap ∧ Win R (R + 1) w wr ∧ B ≤ wr.heap.size
theorem OwnFrameS.lit (w : World) : OwnFrameS w.heap.size (w.alloc (.cells #[] 43)).heap.size (w.alloc (.cells #[] 43)) ⟨some ⟨w.heap.size, 0, none⟩, 0, 0, []⟩ :=
  ⟨⟨OwnS.of (World.ownsRow_lit w #[] 0 (Nat.le_refl _) (by unfold maxLen; omega) rfl) rfl (Nat.zero_le _), fun i hi => absurd hi (by simp), fun i hi => absurd hi (by simp), fun i i' hi => absurd hi (by simp)⟩⟩
theorem FrsM.next {B R N : Nat} {a : Option Addr} {n cap : Nat} {w wr w1 W0 w2 : World} {k : Nat} {y : Row FrameR} {x : FrameR} {A2 : Option Addr} {C2 : Nat}
    (hRB : R < B) (hk : k + 1 + y.n = N) (hN4 : N ≤ 4) (hN : OwnFrameS B wr.heap.size wr y) (hy : ∀ x ∈ y.l, rightFrame x) (hx : rightFrame x) (hB : B ≤ wr.heap.size) (hBw : w.heap.size ≤ B)
    (hC : Cur w1 R a n cap) (hW : Win R (R + 1) w wr) (ho : OwnI .u8 5 wr.heap.size w1.heap.size w1 x.dataA x.dataN x.dataC x.data) (hW1 : Win R (R + 1) wr w1) (hb2 : Below w1.heap.size w1 W0)
    (ho2 : w2.ownsRow B 43 2 (.slice A2 (y.n + 1) C2) (y.n + 1) (y.l.flatMap encFrame ++ encFrame x)) (hg2 : W0.grownBy w2 (Value.slice y.a y.n y.c).ownBlock)
    (hnew : (Value.slice A2 (y.n + 1) C2).ownBlock = (Value.slice y.a y.n y.c).ownBlock ∨ ∀ g, (Value.slice A2 (y.n + 1) C2).ownBlock = some g → W0.heap.size ≤ g) :
    FrsM B R a n cap N w (.slice A2 (y.n + 1) C2) (.int .i64 k) w2 := by
  have hyl := hN.nest.row.len
  have hbw := hW1.size
  have hsz := hb2.size
  have hRl := hC.lt
  have hinn : OwnS (encI .u8) 1 5 B W0.heap.size W0 (slFrame x).a (slFrame x).n (slFrame x).c (slFrame x).l := ((ho.toS.below hb2).lo_le hB).grow hsz (Nat.le_refl _)
  have hbig := ((hN.nest.win hW1 (Or.inl (by omega))).below hb2).grow (Nat.le_trans hbw hsz) (Nat.le_refl _)
  have hsn := hbig.snoc x A2 C2 (OwnS.of (by rw [List.flatMap_append]; simpa using ho2) (by simp; omega) (by omega)) hinn hg2 hnew
    (fun g hg e => by
      have e1 := hN.nest.row.lt g e
      have e2 := (World.ownsRow.lt ho.own g hg).1
      omega)
    (fun i hi0 g hg e => by
      have e1 := (hN.nest.inner i hi0).lt g hg
      have e2 := (World.ownsRow.lt ho.own g e).1
      omega) hg2.size (Nat.le_refl _)
  have hgb : Below B W0 w2 := (Below.refl B W0).grown hg2 (by omega) (fun q hq => (World.ownsRow.lt hN.nest.row.own q hq).1)
  have hgg := hg2.size
  refine ⟨k, ⟨A2, y.n + 1, C2, y.l ++ [x]⟩, rfl, by simp only; omega, rfl, ⟨hsn⟩, ?_, ?_, ?_, by omega⟩
  · intro z hz
    simp only at hz
    rcases List.mem_append.1 hz with hz | hz
    · exact hy z hz
    · rw [List.mem_singleton] at hz; subst hz; exact hx
  · exact (hC.keep (hb2.block R hRl)).keep (hgb.block R hRB)
  · exact (hW.trans hW1).then_below (((hb2.mono (by omega)).trans (hgb.mono (by omega))))
/-- Frames that are right, of the call's own. -/
def RetFrames (w : World) (en : Ending) (w' : World) : Prop := ∃ y : Row FrameR, en = .returned (.slice y.a y.n y.c) ∧ OwnFrameS w.heap.size w'.heap.size w' y ∧ (∀ x ∈ y.l, rightFrame x) ∧ y.n ≤ 4 ∧ Below w.heap.size w w'
set_option maxRecDepth 100000 in
set_option maxHeartbeats 3200000 in
theorem makeFrames_any (a : Option Addr) (n cap : Nat) (zs : List Int) (w : World) (h : Rd (encI .u8) 1 w a n cap zs) (hn : n ≤ 1048576) :
    Calls Try.prog 47 #[.slice a n cap] w fun e w' => RetFrames w e w' := by
  obtain ⟨j0, ji, jz0, jz1, jz2⟩ := info_parts infoFrame
  go_enter Try.func47, Try.ntmps47
  go_wp2_with fail
  refine (l01New_any a n cap zs _ h hn).mono ?_
  rintro e w1 ⟨R, rfl, hR, hC, hb⟩
  simp only
  have hRl := hC.lt
  have hbs := hb.size
  have hal : Below w1.heap.size w1 (w1.alloc (.cells #[] 43)) := (Below.refl _ _).alloc (Nat.le_refl _) _
  go_wp2_with fail
  refine (l01Below_any R a n cap zs 5 (by omega) w _ h (hb.trans (hal.mono hbs)) hR (hC.below hal) hn).mono ?_
  rintro e w2 ⟨x, rfl, hx0, _, hx1, hC2, hW2⟩
  have hx2 := hx1 (by omega)
  clear hx1
  obtain ⟨N, rfl⟩ := Int.eq_ofNat_of_zero_le hx0
  simp only
  have hLIT := Lib.hid ((OwnFrameS.lit w1).win hW2 (Or.inl (by omega)))
  go_wp2
  go_loopw [4, 5] (fun o i wr => FrsM w1.heap.size R a n cap N w1 o i wr) (fun _ i _ => (intOf i).toNat)
  case atStart =>
    refine ⟨N, ⟨some ⟨w1.heap.size, 0, none⟩, 0, 0, []⟩, rfl, by simp, rfl, ⟨hLIT.out.nest.grow hW2.size (Nat.le_refl _)⟩, fun x hx => absurd hx (by simp), hC2, (Win.of_below hal).trans hW2, Nat.le_trans hal.size hW2.size⟩
  case round =>
    obtain ⟨k, ⟨A, r, C, xs⟩, rfl, hk, rfl, hN, hy, hC, hW, hB⟩ := hrel
    have HN := Lib.hid hN
    have HY := Lib.hid hy
    simp only at hk
    clear hN hy hLIT
    by_cases hpos : 0 < k
    · obtain ⟨k', rfl⟩ : ∃ k', k = k' + 1 := ⟨k - 1, by omega⟩
      go_wp2_with fail
      refine (l03Frame_any R a n cap zs w _ h (hb.trans (hW.below hR hbs)) hR hC hn).mono ?_
      rintro e w3 ⟨fk, fa, fn, fc, fd, rfl, ho, h8, h9, hk3, hC3, hW3⟩
      simp only
      have hbW : Below w3.heap.size w3 (w3.alloc (.cells #[.int .i64 fk, .slice fa fn fc] 43)) := (Below.refl _ _).alloc (Nat.le_refl _) _
      have hs3 := hW3.size
      have hOW := Lib.hid (((HN.out.nest.win hW3 (Or.inl (by omega))).below hbW).row.own)
      have HO := Lib.hid ho
      clear ho
      go_wp2_with (at_builtin; refine app_two rfl _ _ 50 rfl w1.heap.size 43 Try.underlying50 ji jz0 jz1 jz2 rfl (by decide) A r C (xs.flatMap encFrame) rfl hOW.out ⟨w3.heap.size, 0, none⟩ 1 1 (encFrame ⟨fk, fa, fn, fc, fd⟩) rfl rfl ?c1 (oneFrame _) (by decide) ?c2 ?c3 ?c4 ?_)
      case c1 =>
        intro j u hu
        exact hu
      case c2 => unfold maxLen; omega
      case c3 => omega
      case c4 => omega
      intro A2 C2 w4 ho2 hg2 hnew2
      have HNX := Lib.hid (FrsM.next (x := ⟨fk, fa, fn, fc, fd⟩) hRl hk (by omega) HN.out HY.out ⟨hk3, h8, h9⟩ hB (Nat.le_refl _) hC3 hW HO.out hW3 hbW ho2 hg2 (by simpa using hnew2))
      clear ho2 hg2 hnew2 hOW
      go_wp2
      go_roundw
      case rel => exact HNX.out
      case measure => simp [intOf]
    · obtain rfl : k = 0 := by omega
      go_wp2
      go_ret
      refine ⟨⟨A, r, C, xs⟩, rfl, ⟨HN.out.nest.lo_le hbs⟩, HY.out, by simp only; omega, ?_⟩
      exact hb.trans (hW.below hR hbs)
end Go.Proofs.Ytkgalkaafocnjaa

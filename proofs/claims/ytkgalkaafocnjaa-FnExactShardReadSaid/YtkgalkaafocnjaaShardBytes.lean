/- ShardBytes: what it computes. -/
import Derived.Test.YtkgalkaafocnjaaShBP
import Derived.Test.YtkgalkaafocnjaaVarG
import Derived.Test.YtkgalkaafocnjaaShardOkU
import Derived.Test.YtkgalkaafocnjaaShardK
import Derived.Test.YtkgalkaafocnjaaRetBK
import Derived.Test.YtkgalkaafocnjaaKeep
namespace Go.Proofs.Ytkgalkaafocnjaa
open Go.RowKit
theorem putVar_b (a : Option Addr) (n cap : Nat) (zs : List Int) (x : Int) (B : Nat) (w : World) (h : w.ownsRow B 5 1 (.slice a n cap) n (zs.map (.int .u8))) (hz : zs.length = n) (hB : B ≤ w.heap.size) (hn : n ≤ 1099511627776) (hx0 : 0 ≤ x) (hx1 : x ≤ 4611686018427387903) :
    Calls Try.prog 66 #[.slice a n cap, .int .i64 x] w fun e w' => ∃ a' n' cap', e = .returned (.slice a' n' cap') ∧ w'.ownsRow B 5 1 (.slice a' n' cap') n' ((zs ++ vdig x.toNat).map (.int .u8)) ∧ n' = n + (vdig x.toNat).length ∧ Below B w w' := by
  have e : x = ((x.toNat : Nat) : Int) := by omega
  have := putVar_any a n cap zs x.toNat B w h hz hB hn (by omega)
  rw [← e] at this
  exact this
theorem keepB3 {W w w' : World} {B b : Nat} {v1 v2 v3 : Value} (hlt : b < B) (hb : Below B w w') (h : w.cell? ⟨b, 0, none⟩ = some v1 ∧ w.cell? ⟨b, 1, none⟩ = some v2 ∧ w.cell? ⟨b, 2, none⟩ = some v3 ∧ Below B W w) :
    w'.cell? ⟨b, 0, none⟩ = some v1 ∧ w'.cell? ⟨b, 1, none⟩ = some v2 ∧ w'.cell? ⟨b, 2, none⟩ = some v3 ∧ Below B W w' :=
  ⟨(hb.cell (p := ⟨b, 0, none⟩) hlt).trans h.1, (hb.cell (p := ⟨b, 1, none⟩) hlt).trans h.2.1, (hb.cell (p := ⟨b, 2, none⟩) hlt).trans h.2.2.1, h.2.2.2.trans hb⟩
theorem sizeB3 {W w : World} {B b : Nat} {v1 v2 v3 : Value} (hB : B ≤ W.heap.size) (h : w.cell? ⟨b, 0, none⟩ = some v1 ∧ w.cell? ⟨b, 1, none⟩ = some v2 ∧ w.cell? ⟨b, 2, none⟩ = some v3 ∧ Below B W w) : B ≤ w.heap.size := Nat.le_trans hB h.2.2.2.size
/-- What holds at each round's head: block L holds the edge before, out owns what was written, in another block. -/
structure ShInv (lo hi : Int) (xs : List SEdgeR) (w : World) (L k : Nat) (a : Option Addr) (r c : Nat) (wr : World) : Prop where
  own : wr.ownsRow w.heap.size 5 1 (.slice a r c) r ((shTo lo hi xs k).map (.int .u8))
  len : (shTo lo hi xs k).length = r
  far : (Value.slice a r c).ownBlock ≠ some L
  box : Box5 wr L (shPrev lo xs k)
  bel : Below w.heap.size w wr
/-- Inside a round: block E holds the edge that is written. -/
structure ShMid (w : World) (L E : Nat) (p e : SEdgeR) (zs : List Int) (a : Option Addr) (r c : Nat) (wr : World) : Prop where
  own : wr.ownsRow w.heap.size 5 1 (.slice a r c) r (zs.map (.int .u8))
  len : zs.length = r
  farL : (Value.slice a r c).ownBlock ≠ some L
  farE : (Value.slice a r c).ownBlock ≠ some E
  boxL : Box5 wr L p
  boxE : Box5 wr E e
  bel : Below w.heap.size w wr
theorem ShInv.mid {lo hi : Int} {xs : List SEdgeR} {w : World} {L k : Nat} {a : Option Addr} {r c : Nat} {wr : World} (h : ShInv lo hi xs w L k a r c wr) (e : SEdgeR) (t : TypeId) :
    ShMid w L wr.heap.size (shPrev lo xs k) e (shTo lo hi xs k) a r c (wr.alloc (.cells #[.int .i64 e.fr, .int .i64 e.to, .int .i64 e.wt, .int .i64 e.ix, .int .i64 e.val] t)) :=
  ⟨h.own.alloc _, h.len, h.far, (fun e1 => by have := (World.ownsRow.lt h.own _ e1).2; omega), h.box.below ((Below.refl _ _).alloc (Nat.le_refl _) _), Box5.new wr e t, h.bel.alloc h.bel.size _⟩
theorem ShMid.next {w : World} {L E : Nat} {p e : SEdgeR} {zs ys : List Int} {a a' : Option Addr} {r c n' c' : Nat} {wr w' : World} (h : ShMid w L E p e zs a r c wr)
    (ho : w'.ownsRow w.heap.size 5 1 (.slice a' n' c') n' ((zs ++ ys).map (.int .u8))) (hn : n' = r + ys.length) (hg : GrowS wr w' (.slice a r c) (.slice a' n' c')) : ShMid w L E p e (zs ++ ys) a' n' c' w' :=
  ⟨ho, by rw [List.length_append, h.len, hn], hg.away h.boxL.lt h.farL, hg.away h.boxE.lt h.farE, h.boxL.keep (hg.block h.boxL.lt h.farL), h.boxE.keep (hg.block h.boxE.lt h.farE), hg.below h.bel h.bel.size (fun g hgg => (World.ownsRow.lt h.own g hgg).1)⟩
theorem ShMid.fin {lo hi : Int} {xs : List SEdgeR} {w : World} {L E k : Nat} {p : SEdgeR} {zs : List Int} {a : Option Addr} {r c : Nat} {wr : World} (h : ShMid w L E p (atSEdge xs k) zs a r c wr) (hz : zs = shTo lo hi xs (k + 1)) (hL : w.heap.size ≤ L) :
    ShInv lo hi xs w L (k + 1) a r c (((((wr.setCell ⟨L, 0, none⟩ (.int .i64 (atSEdge xs k).fr)).setCell ⟨L, 1, none⟩ (.int .i64 (atSEdge xs k).to)).setCell ⟨L, 2, none⟩ (.int .i64 (atSEdge xs k).wt)).setCell ⟨L, 3, none⟩ (.int .i64 (atSEdge xs k).ix)).setCell ⟨L, 4, none⟩ (.int .i64 (atSEdge xs k).val)) := by
  subst hz
  have hw := put5_win wr L (atSEdge xs k)
  have hl := h.boxL.lt
  refine ⟨own_win h.own hw (fun g hg => ?_), h.len, h.farL, ?_, h.bel.trans (hw.below hL h.bel.size)⟩
  · have : g ≠ L := fun e => h.farL (by rw [← e]; exact hg)
    omega
  · rw [shPrev_succ]; exact h.boxL.put _
set_option maxRecDepth 100000 in
set_option maxHeartbeats 3200000 in
theorem shardBytes_nil (lo hi : Int) (a : Option Addr) (m cap : Nat) (xs : List SEdgeR) (w : World) (h : Rd encSEdge 5 w a m cap xs) (hok : shardB lo hi xs = true) :
    Calls Try.prog 85 #[.slice none 0 0, .agg #[.int .i64 lo, .int .i64 hi, .slice a m cap]] w fun e w' => RetL .u8 5 (shTo lo hi xs xs.length) w e w' := by
  obtain ⟨p1, p2, p3, p4, p5⟩ := shardB_yes hok
  have hL := Lib.hid h.len
  have hm := h.max
  have hle := h.le
  unfold maxLen at hm
  rw [hL.out] at p4
  have HOK := Lib.hid hok
  have hv1 := vdig_le2 (n := lo.toNat) (by omega)
  have hv2 := vdig_le2 (n := hi.toNat) (by omega)
  have hv3 := vdig_le2 (n := m) (by omega)
  clear p5 hok
  have hb0 := (Below.refl w.heap.size w).alloc (Nat.le_refl _) (.cells #[.int .i64 lo, .int .i64 hi, .slice a m cap] 64)
  have hszW : w.heap.size + 1 ≤ (w.alloc (.cells #[.int .i64 lo, .int .i64 hi, .slice a m cap] 64)).heap.size := by simp
  have HX : Hid ((w.alloc (.cells #[.int .i64 lo, .int .i64 hi, .slice a m cap] 64)).cell? ⟨w.heap.size, 0, none⟩ = some (.int .i64 lo) ∧ (w.alloc (.cells #[.int .i64 lo, .int .i64 hi, .slice a m cap] 64)).cell? ⟨w.heap.size, 1, none⟩ = some (.int .i64 hi) ∧ (w.alloc (.cells #[.int .i64 lo, .int .i64 hi, .slice a m cap] 64)).cell? ⟨w.heap.size, 2, none⟩ = some (.slice a m cap) ∧ Below (w.heap.size + 1) (w.alloc (.cells #[.int .i64 lo, .int .i64 hi, .slice a m cap] 64)) (w.alloc (.cells #[.int .i64 lo, .int .i64 hi, .slice a m cap] 64))) :=
    Lib.hid ⟨by simp [go_sem], by simp [go_sem], by simp [go_sem], Below.refl _ _⟩
  go_enter Try.func85, Try.ntmps85
  go_wp2_with fail
  go_region_held3 (fun w' => w'.cell? ⟨w.heap.size, 0, none⟩ = some (.int .i64 lo) ∧ w'.cell? ⟨w.heap.size, 1, none⟩ = some (.int .i64 hi) ∧ w'.cell? ⟨w.heap.size, 2, none⟩ = some (.slice a m cap) ∧ Below (w.heap.size + 1) (w.alloc (.cells #[.int .i64 lo, .int .i64 hi, .slice a m cap] 64)) w')
    (first | exact HX.out | exact keepB3 (Nat.lt_succ_self _) ((Below.refl _ _).drew) (by assumption) | exact keepB3 (Nat.lt_succ_self _) (by assumption) (by assumption))
    (first
      | (go_at_call 66; (with_reducible refine (putVar_b none 0 0 [] lo (w.heap.size + 1) _ (World.ownsRow_nil _ _ _ _) rfl (sizeB3 hszW (by assumption)) (by omega) (by omega) (by omega)).mono ?_); rintro e w1 ⟨a1, n1, c1, rfl, ho1, hn1, hb1⟩; simp only [List.nil_append] at ho1; have HN1 := Lib.hid hn1; have hn1b : n1 ≤ 2 := by omega
         clear hn1)
      | (go_at_call 66; (with_reducible refine (putVar_b a1 n1 c1 (vdig lo.toNat) hi (w.heap.size + 1) _ (by first | exact ho1 | exact ho1.drew) (by have := HN1.out; omega) (sizeB3 hszW (by assumption)) (by omega) (by omega) (by omega)).mono ?_); rintro e w2 ⟨a2, n2, c2, rfl, ho2, hn2, hb2⟩; have HN2 := Lib.hid hn2; have hn2b : n2 ≤ 4 := by omega
         clear hn2)
      | (go_at_call 66; (with_reducible refine (putVar_b a2 n2 c2 (vdig lo.toNat ++ vdig hi.toNat) (m : Int) (w.heap.size + 1) _ (by first | exact ho2 | exact ho2.drew) (by have e1 := HN1.out; have e2 := HN2.out; rw [List.length_append]; omega) (sizeB3 hszW (by assumption)) (by omega) (by omega) (by omega)).mono ?_); rintro e w3 ⟨a3, n3, c3, rfl, ho3, hn3, hb3⟩; have HN3 := Lib.hid hn3; have hn3b : n3 ≤ 6 := by (have := hn3; simp only [Int.toNat_natCast] at this; omega)
         clear hn3))
  obtain ⟨q0, q1, q2, hbB⟩ : w3.cell? ⟨w.heap.size, 0, none⟩ = some (.int .i64 lo) ∧ w3.cell? ⟨w.heap.size, 1, none⟩ = some (.int .i64 hi) ∧ w3.cell? ⟨w.heap.size, 2, none⟩ = some (.slice a m cap) ∧ Below (w.heap.size + 1) (w.alloc (.cells #[.int .i64 lo, .int .i64 hi, .slice a m cap] 64)) w3 := by assumption
  have BB3 : Below w.heap.size w w3 := hb0.trans (hbB.mono (by omega))
  have hz3 : w.heap.size < w3.heap.size := World.block_lt_of_cell? _ _ q0
  have hlen3 : (shTo lo hi xs 0).length = n3 := by
    have e1 := HN1.out
    have e2 := HN2.out
    have e3 := HN3.out
    simp only [Int.toNat_natCast] at e3
    rw [shTo_zero, hL.out]
    unfold shHead
    simp only [List.length_append]
    omega
  have HI0 : Hid (ShInv lo hi xs w w3.heap.size 0 a3 n3 c3 (w3.alloc (.cells #[.int .i64 0, .int .i64 lo, .int .i64 0, .int .i64 0, .int .i64 0] 92))) := by
    have e : shTo lo hi xs 0 = vdig lo.toNat ++ vdig hi.toNat ++ vdig ((m : Int).toNat) := by rw [shTo_zero, hL.out]; rfl
    exact Lib.hid ⟨by rw [e]; exact own_base (ho3.alloc _) (by omega), hlen3, (fun e1 => by have := (World.ownsRow.lt ho3 _ e1).2; omega), Box5.new w3 ⟨0, lo, 0, 0, 0⟩ _, BB3.alloc BB3.size _⟩
  clear ho1 ho2 ho3 hb1 hb2 hb3 hlen3 hbB hszW hb0
  go_wp2
  go_loopw [0, 25] (fun o i wr => ∃ (k : Nat) (a' : Option Addr) (r c : Nat), k ≤ m ∧ i = .int .i64 k ∧ o = .slice a' r c ∧ Hid (ShInv lo hi xs w w3.heap.size k a' r c wr)) (fun _ i _ => m - (intOf i).toNat)
  case atStart => exact ⟨0, a3, n3, c3, Nat.zero_le _, rfl, rfl, HI0⟩
  case round =>
    obtain ⟨k, a', r, c, hk, rfl, rfl, HI⟩ := hrel
    by_cases hlt : k < m
    · have hkx : k < xs.length := by rw [hL.out]; exact hlt
      have hlen := shTo_len HOK.out k (by omega)
      rw [HI.out.len] at hlen
      obtain ⟨f0, f1, f2, t0, t1, t2, t3, v0, v1, i0, i1, i2, i3⟩ := shFacts HOK.out hkx
      obtain ⟨b1, off1, rfl, hbl1, hc1⟩ := h.rowSEdge (by omega)
      obtain ⟨x0, x1, x2, x3, x4⟩ := hc1 k hlt
      have cb : ∀ o, wr.cell? ⟨b1, o, none⟩ = w.cell? ⟨b1, o, none⟩ := fun o => HI.out.bel.cell (p := ⟨b1, o, none⟩) hbl1
      rw [← cb] at x0 x1 x2 x3 x4
      have HM0 := Lib.hid (HI.out.mid (atSEdge xs k) 92)
      have HNXT := Lib.hid ((shEdge_app (shTo lo hi xs k) (shPrev lo xs k) (atSEdge xs k)).trans (shTo_succ lo hi xs k).symm)
      obtain ⟨y0, y1, y2, y3, y4, _, _, _, _, _⟩ := HI.out.box
      have hzL : w3.heap.size < wr.heap.size := HI.out.box.lt
      have hbs := HI.out.bel.size
      have hbs1 : w.heap.size ≤ wr.heap.size + 1 := by omega
      clear hc1 cb hkx
      obtain ⟨zs, hzs⟩ : ∃ zs, zs = shTo lo hi xs k := ⟨_, rfl⟩
      rw [← hzs] at HM0 HNXT
      have HZS := Lib.hid hzs
      clear hzs
      generalize hp : shPrev lo xs k = p at *
      generalize hed : atSEdge xs k = ed at *
      have HED := Lib.hid hed.symm
      clear hp hed
      have g1 := vdig_le2 (n := (ed.fr - p.fr).toNat) (by omega)
      have g2 := vdig_le2 (zigN_le (x := ed.to - p.to) (by omega) (by omega))
      have g3 := vdig_le2 (n := ed.wt.toNat) (by omega)
      go_wp2_with fail
      refine (putVar_g a' r c zs (ed.fr - p.fr) w.heap.size _ HM0.out.own HM0.out.len (by simp only [World.size_alloc]; exact hbs1) (by omega) (by omega) (by omega)).mono ?_
      rintro e w4 ⟨a4, n4, c4, rfl, ho4, hn4, hg4⟩
      have HM1 := Lib.hid (HM0.out.next ho4 hn4 hg4)
      have hn4b : n4 ≤ r + 2 := by omega
      clear ho4 hn4 hg4 y0 y1 y2 y3 y4 x0 x1 x2 x3 x4
      obtain ⟨y0, y1, y2, y3, y4, _, _, _, _, _⟩ := HM1.out.boxL
      obtain ⟨x0, x1, x2, x3, x4, _, _, _, _, _⟩ := HM1.out.boxE
      go_wp2_with fail
      refine (putZig_g a4 n4 c4 _ (ed.to - p.to) w.heap.size _ HM1.out.own HM1.out.len HM1.out.bel.size (by omega) (by omega) (by omega)).mono ?_
      rintro e w5 ⟨a5, n5, c5, rfl, ho5, hn5, hg5⟩
      have HM2 := Lib.hid (HM1.out.next ho5 hn5 hg5)
      have hn5b : n5 ≤ r + 4 := by omega
      clear ho5 hn5 hg5 y0 y1 y2 y3 y4 x0 x1 x2 x3 x4
      obtain ⟨y0, y1, y2, y3, y4, _, _, _, _, _⟩ := HM2.out.boxL
      obtain ⟨x0, x1, x2, x3, x4, _, _, _, _, _⟩ := HM2.out.boxE
      go_wp2_with fail
      refine (putVar_g a5 n5 c5 _ ed.wt w.heap.size _ HM2.out.own HM2.out.len HM2.out.bel.size (by omega) (by omega) (by omega)).mono ?_
      rintro e w6 ⟨a6, n6, c6, rfl, ho6, hn6, hg6⟩
      have HM3 := Lib.hid (HM2.out.next ho6 hn6 hg6)
      have hn6b : n6 ≤ r + 6 := by omega
      clear ho6 hn6 hg6 y0 y1 y2 y3 y4 x0 x1 x2 x3 x4
      obtain ⟨y0, y1, y2, y3, y4, _, _, _, _, _⟩ := HM3.out.boxL
      obtain ⟨x0, x1, x2, x3, x4, _, _, _, _, _⟩ := HM3.out.boxE
      go_wp2_with fail
      refine (putZig_g a6 n6 c6 _ (ed.ix - p.ix) w.heap.size _ HM3.out.own HM3.out.len HM3.out.bel.size (by omega) (by omega) (by omega)).mono ?_
      rintro e w7 ⟨a7, n7, c7, rfl, ho7, hn7, hg7⟩
      have HM4 := Lib.hid (HM3.out.next ho7 hn7 hg7)
      clear ho7 hn7 hg7 y0 y1 y2 y3 y4 x0 x1 x2 x3 x4
      have HFIN : Hid (ShInv lo hi xs w w3.heap.size (k + 1) a7 n7 c7 (((((w7.setCell ⟨w3.heap.size, 0, none⟩ (.int .i64 ed.fr)).setCell ⟨w3.heap.size, 1, none⟩ (.int .i64 ed.to)).setCell ⟨w3.heap.size, 2, none⟩ (.int .i64 ed.wt)).setCell ⟨w3.heap.size, 3, none⟩ (.int .i64 ed.ix)).setCell ⟨w3.heap.size, 4, none⟩ (.int .i64 ed.val))) := by
        have e := HM4.out
        rw [HED.out] at e HNXT ⊢
        exact Lib.hid (e.fin HNXT.out (by omega))
      obtain ⟨y0, y1, y2, y3, y4, z0, z1, z2, z3, z4⟩ := HM4.out.boxL
      obtain ⟨x0, x1, x2, x3, x4, _, _, _, _, _⟩ := HM4.out.boxE
      go_wp2
      go_roundw
      case rel => exact ⟨k + 1, a7, n7, c7, by omega, by go_num, rfl, HFIN⟩
      case measure => simp [intOf]; omega
    · obtain rfl : k = m := by omega
      go_wp2
      go_ret
      have e := HI.out
      rw [← hL.out] at e
      exact ⟨a', r, c, rfl, OwnI.of e.own e.len (by have := shTo_len HOK.out xs.length (Nat.le_refl _); have := e.len; have := hL.out; omega), e.bel⟩
set_option maxRecDepth 100000 in
set_option maxHeartbeats 1600000 in
theorem shardBytes_impl_k (y : ShardR) (D : Int × Int × List SEdgeR) (hD : datShard y = D) (w : World) (g : goodShard w y) :
    Calls Try.prog 52 #[.agg #[.int .i64 y.lo, .int .i64 y.hi, .slice y.edgesA y.edgesN y.edgesC]] w fun e w' => RetBK (shardBytesF D) w e w' := by
  subst hD
  have hb0 := (Below.refl w.heap.size w).alloc (Nat.le_refl _) (.cells #[.int .i64 y.lo, .int .i64 y.hi, .slice y.edgesA y.edgesN y.edgesC] 64)
  have gr := g.2.2.1
  have G := Lib.hid g
  clear g
  obtain ⟨lo, hi, a, m, cap, xs⟩ := y
  simp only at gr hb0 ⊢
  cases hok : shardB lo hi xs with
  | true =>
    have HF : Hid (shardBytesF (datShard ⟨lo, hi, a, m, cap, xs⟩) = (shTo lo hi xs xs.length, true)) := Lib.hid (shardBytesF_yes hok)
    have HLEN := Lib.hid (shTo_len hok xs.length (Nat.le_refl _))
    have HX := Lib.hid (shardB_yes hok).2.2.2.1
    have HOK := Lib.hid hok
    clear hok
    go_enter Try.func52, Try.ntmps52
    go_wp2_with fail
    refine (shardOk_impl lo hi a m cap xs _ (gr.below hb0 (Nat.le_refl _))).mono ?_
    rintro e w1 ⟨rfl, hb1⟩
    rw [HOK.out]
    obtain ⟨hc, hf⟩ := bcell hb1
    have x0 : w1.cell? ⟨w.heap.size, 0, none⟩ = some (.int .i64 lo) := by rw [hc _ _ (by simp)]; simp [go_sem]
    have x1 : w1.cell? ⟨w.heap.size, 1, none⟩ = some (.int .i64 hi) := by rw [hc _ _ (by simp)]; simp [go_sem]
    have x2 : w1.cell? ⟨w.heap.size, 2, none⟩ = some (.slice a m cap) := by rw [hc _ _ (by simp)]; simp [go_sem]
    have BB1 := hb0.trans (hb1.mono hb0.size)
    clear hc hf
    go_wp2_with fail
    refine (shardBytes_nil lo hi a m cap xs _ (gr.below BB1 (Nat.le_refl _)) HOK.out).mono ?_
    rintro e w2 ⟨a2, n2, c2, rfl, ho2, hb2⟩
    have BB2 := BB1.trans (hb2.mono BB1.size)
    have HO := Lib.hid (ho2.lo_le BB1.size)
    clear ho2
    go_wp2
    go_ret2
    rw [HF.out]
    exact RetBK.of HO.out BB2 (by have h1 := HO.out.len; have h2 := HLEN.out; have h3 := HX.out; omega)
  | false =>
    have HF : Hid (shardBytesF (datShard ⟨lo, hi, a, m, cap, xs⟩) = ([], false)) := Lib.hid (shardBytesF_no hok)
    have HOK := Lib.hid hok
    clear hok
    go_enter Try.func52, Try.ntmps52
    go_wp2_with fail
    refine (shardOk_impl lo hi a m cap xs _ (gr.below hb0 (Nat.le_refl _))).mono ?_
    rintro e w1 ⟨rfl, hb1⟩
    rw [HOK.out]
    have BB1 := hb0.trans (hb1.mono hb0.size)
    go_wp2
    go_ret2
    rw [HF.out]
    exact RetBK.none BB1
/-- What holds at each round's head: block L holds the edge before, out owns what was written. -/
structure ShInvS (lo hi : Int) (xs : List SEdgeR) (w : World) (L k : Nat) (a : Option Addr) (r c : Nat) (wr : World) : Prop where
  own : OwnI .u8 5 w.heap.size wr.heap.size wr a r c (shTo lo hi xs k)
  box : Box5 wr L (shPrev lo xs k)
  bel : Below w.heap.size w wr
theorem ShInvS.fin {lo hi : Int} {xs : List SEdgeR} {w : World} {L k l : Nat} {p : SEdgeR} {zs : List Int} {a : Option Addr} {r c : Nat} {wr : World} (ho : OwnI .u8 5 l wr.heap.size wr a r c zs) (hl : L < l) (hw : w.heap.size ≤ l) (hx : Box5 wr L p) (hb : Below w.heap.size w wr) (hz : zs = shTo lo hi xs (k + 1)) (hL : w.heap.size ≤ L) :
    ShInvS lo hi xs w L (k + 1) a r c (((((wr.setCell ⟨L, 0, none⟩ (.int .i64 (atSEdge xs k).fr)).setCell ⟨L, 1, none⟩ (.int .i64 (atSEdge xs k).to)).setCell ⟨L, 2, none⟩ (.int .i64 (atSEdge xs k).wt)).setCell ⟨L, 3, none⟩ (.int .i64 (atSEdge xs k).ix)).setCell ⟨L, 4, none⟩ (.int .i64 (atSEdge xs k).val)) := by
  subst hz
  have hwn := put5_win wr L (atSEdge xs k)
  refine ⟨((ho.win hwn (Or.inl hl)).lo_le hw).grow hwn.size (Nat.le_refl _), ?_, hb.trans (hwn.below hL hb.size)⟩
  rw [shPrev_succ]; exact hx.put _
set_option maxRecDepth 100000 in
set_option maxHeartbeats 3200000 in
theorem shardBytes_spec_r (lo hi : Int) (a : Option Addr) (m cap : Nat) (xs : List SEdgeR) (w : World) (h : Rd encSEdge 5 w a m cap xs) :
    Calls Try.prog 50 #[.agg #[.int .i64 lo, .int .i64 hi, .slice a m cap]] w fun e w' => RetBK (shardBytesF (lo, hi, xs)) w e w' := by
  have hb0 := (Below.refl w.heap.size w).alloc (Nat.le_refl _) (.cells #[.int .i64 lo, .int .i64 hi, .slice a m cap] 64)
  cases hok : shardB lo hi xs with
  | true =>
    have HF : Hid (shardBytesF (lo, hi, xs) = (shTo lo hi xs xs.length, true)) := Lib.hid (shardBytesF_yes (D := (lo, hi, xs)) hok)
    obtain ⟨p1, p2, p3, p4, p5⟩ := shardB_yes hok
    have hL := Lib.hid h.len
    have hm := h.max
    have hle := h.le
    unfold maxLen at hm
    rw [hL.out] at p4
    have HOK := Lib.hid hok
    have hv1 := vdig_le2 (n := lo.toNat) (by omega)
    have hv2 := vdig_le2 (n := hi.toNat) (by omega)
    have hv3 := vdig_le2 (n := (m : Int).toNat) (by omega)
    clear p5 hok
    go_enter Try.func50, Try.ntmps50
    go_wp2_with fail
    refine (shardOk_spec lo hi a m cap xs _ (h.below hb0 (Nat.le_refl _))).mono ?_
    rintro e w1 ⟨rfl, hb1⟩
    rw [HOK.out]
    have BB1 := hb0.trans (hb1.mono hb0.size)
    obtain ⟨hc, hf⟩ := bcell hb1
    have x0 : w1.cell? ⟨w.heap.size, 0, none⟩ = some (.int .i64 lo) := by rw [hc _ _ (by simp)]; simp [go_sem]
    have x1 : w1.cell? ⟨w.heap.size, 1, none⟩ = some (.int .i64 hi) := by rw [hc _ _ (by simp)]; simp [go_sem]
    have x2 : w1.cell? ⟨w.heap.size, 2, none⟩ = some (.slice a m cap) := by rw [hc _ _ (by simp)]; simp [go_sem]
    clear hc hf
    go_wp2_with fail
    refine (PutVar_spec none 0 0 ([]) (lo) _ (⟨Nat.le_refl _, by unfold maxLen; omega, rfl, fun _ => rfl, fun hh => absurd hh (Nat.lt_irrefl 0)⟩) (fun y hy => by simp at hy) (by unfold In64; omega) (by omega)).mono ?_
    rintro e w2 ⟨a2, n2, c2, rfl, ho2, hb2⟩
    rw [putVarF_yes _ (numB_true (by omega) (by omega))] at ho2 ⊢
    simp only at ho2
    simp only [List.nil_append] at ho2
    have hn2 : n2 ≤ 2 := by have := ho2.len; omega
    have y0 := cell_later hb2 x0
    have y1 := cell_later hb2 x1
    have y2 := cell_later hb2 x2
    clear x0 x1 x2
    have BB2 := BB1.trans (hb2.mono BB1.size)
    go_wp2_with fail
    refine (PutVar_spec a2 n2 c2 (vdig lo.toNat) (hi) _ (ho2.rd) (vdig8 _) (by unfold In64; omega) (by omega)).mono ?_
    rintro e w3 ⟨a3, n3, c3, rfl, ho3, hb3⟩
    rw [putVarF_yes _ (numB_true (by omega) (by omega))] at ho3 ⊢
    simp only at ho3
    have hn3 : n3 ≤ 4 := by have := ho3.len; rw [List.length_append] at this; omega
    have x0 := cell_later hb3 y0
    have x1 := cell_later hb3 y1
    have x2 := cell_later hb3 y2
    clear y0 y1 y2
    have BB3 := BB2.trans (hb3.mono BB2.size)
    go_wp2_with fail
    refine (PutVar_spec a3 n3 c3 (vdig lo.toNat ++ vdig hi.toNat) ((m : Int)) _ (ho3.rd) (app8 (vdig8 _) (vdig8 _)) (by unfold In64; omega) (by omega)).mono ?_
    rintro e w4 ⟨a4, n4, c4, rfl, ho4, hb4⟩
    rw [putVarF_yes _ (numB_true (by omega) (by omega))] at ho4 ⊢
    simp only at ho4
    have y0 := cell_later hb4 x0
    have y1 := cell_later hb4 x1
    have y2 := cell_later hb4 x2
    clear x0 x1 x2
    have BB4 := BB3.trans (hb4.mono BB3.size)
    have hz4 : w.heap.size < w4.heap.size := World.block_lt_of_cell? _ _ y0
    have HI0 : Hid (ShInvS lo hi xs w w4.heap.size 0 a4 n4 c4 (w4.alloc (.cells #[.int .i64 0, .int .i64 lo, .int .i64 0, .int .i64 0, .int .i64 0] 92))) := by
      have e : shTo lo hi xs 0 = vdig lo.toNat ++ vdig hi.toNat ++ vdig ((m : Int).toNat) := by rw [shTo_zero, hL.out]; rfl
      have hba := (Below.refl w4.heap.size w4).alloc (Nat.le_refl _) (.cells #[.int .i64 0, .int .i64 lo, .int .i64 0, .int .i64 0, .int .i64 0] 92)
      exact Lib.hid ⟨by rw [e]; exact ((ho4.below hba).lo_le BB3.size).grow hba.size (Nat.le_refl _), Box5.new w4 ⟨0, lo, 0, 0, 0⟩ _, BB4.alloc BB4.size _⟩
    have hb4s := BB4.size
    clear ho2 ho3 ho4 hb1 hb2 hb3 hb4 hb0 BB1 BB2 BB3
    go_wp2
    go_loopw [4, 39] (fun o i wr => ∃ (k : Nat) (a' : Option Addr) (r c : Nat), k ≤ m ∧ i = .int .i64 k ∧ o = .slice a' r c ∧ Hid (ShInvS lo hi xs w w4.heap.size k a' r c wr)) (fun _ i _ => m - (intOf i).toNat)
    case atStart => exact ⟨0, a4, n4, c4, Nat.zero_le _, rfl, rfl, HI0⟩
    case round =>
      obtain ⟨k, a', r, c, hk, rfl, rfl, HI⟩ := hrel
      by_cases hlt : k < m
      · have hkx : k < xs.length := by rw [hL.out]; exact hlt
        have hlen := shTo_len HOK.out k (by omega)
        rw [HI.out.own.len] at hlen
        obtain ⟨f0, f1, f2, t0, t1, t2, t3, v0, v1, i0, i1, i2, i3⟩ := shFacts HOK.out hkx
        obtain ⟨b1, off1, rfl, hbl1, hc1⟩ := h.rowSEdge (by omega)
        obtain ⟨x0, x1, x2, x3, x4⟩ := hc1 k hlt
        have cb : ∀ o, wr.cell? ⟨b1, o, none⟩ = w.cell? ⟨b1, o, none⟩ := fun o => HI.out.bel.cell (p := ⟨b1, o, none⟩) hbl1
        rw [← cb] at x0 x1 x2 x3 x4
        have hba := (Below.refl wr.heap.size wr).alloc (Nat.le_refl _) (.cells #[.int .i64 (atSEdge xs k).fr, .int .i64 (atSEdge xs k).to, .int .i64 (atSEdge xs k).wt, .int .i64 (atSEdge xs k).ix, .int .i64 (atSEdge xs k).val] 92)
        have HXE := Lib.hid (Box5.new wr (atSEdge xs k) 92)
        have HXL := Lib.hid (HI.out.box.below hba)
        have HOA := Lib.hid (HI.out.own.below hba)
        have HNXT := Lib.hid ((shEdge_app (shTo lo hi xs k) (shPrev lo xs k) (atSEdge xs k)).trans (shTo_succ lo hi xs k).symm)
        have HZ8 := Lib.hid (shTo_in8 lo hi xs k)
        obtain ⟨y0, y1, y2, y3, y4, _, _, _, _, _⟩ := HI.out.box
        have hzL : w4.heap.size < wr.heap.size := HI.out.box.lt
        have hbs := HI.out.bel.size
        have BBr := HI.out.bel.alloc HI.out.bel.size (.cells #[.int .i64 (atSEdge xs k).fr, .int .i64 (atSEdge xs k).to, .int .i64 (atSEdge xs k).wt, .int .i64 (atSEdge xs k).ix, .int .i64 (atSEdge xs k).val] 92)
        clear hc1 cb hkx hba
        obtain ⟨zs, hzs⟩ : ∃ zs, zs = shTo lo hi xs k := ⟨_, rfl⟩
        rw [← hzs] at HOA HNXT HZ8
        clear hzs
        generalize hp : shPrev lo xs k = p at *
        generalize hed : atSEdge xs k = ed at *
        have HED := Lib.hid hed.symm
        clear hp hed
        have g1 := vdig_le2 (n := (ed.fr - p.fr).toNat) (by omega)
        have g2 := vdig_le2 (zigN_le (x := ed.to - p.to) (by omega) (by omega))
        have g3 := vdig_le2 (n := ed.wt.toNat) (by omega)
        go_wp2_with fail
        refine (PutVar_spec a' r c (zs) (ed.fr - p.fr) _ (HOA.out.rd) (HZ8.out) (by unfold In64; omega) (by omega)).mono ?_
        rintro e w5 ⟨a5, n5, c5, rfl, ho5, hb5⟩
        rw [putVarF_yes _ (numB_true (by omega) (by omega))] at ho5 ⊢
        simp only at ho5
        have BB5 := BBr.trans (hb5.mono BBr.size)
        have hn5 : n5 ≤ r + 2 := by (have e1 := ho5.len; have e2 := HOA.out.len; rw [List.length_append] at e1; omega)
        clear x0 x1 x2 x3 x4
        have HXL5 := Lib.hid (HXL.out.below hb5)
        have HXE5 := Lib.hid (HXE.out.below hb5)
        clear y0 y1 y2 y3 y4
        obtain ⟨y0, y1, y2, y3, y4, _, _, _, _, _⟩ := HXL5.out
        obtain ⟨x0, x1, x2, x3, x4, _, _, _, _, _⟩ := HXE5.out
        go_wp2_with fail
        refine (PutZig_spec a5 n5 c5 (_) (ed.to - p.to) _ (ho5.rd) (app8 HZ8.out (vdig8 _)) (by unfold In64; omega) (by omega)).mono ?_
        rintro e w6 ⟨a6, n6, c6, rfl, ho6, hb6⟩
        rw [putZigF_yes _ (zigB_yes (by omega) (by omega))] at ho6 ⊢
        simp only at ho6
        have BB6 := BB5.trans (hb6.mono BB5.size)
        have hn6 : n6 ≤ r + 4 := by (have e1 := ho6.len; have e2 := HOA.out.len; simp only [List.length_append] at e1; omega)
        clear x0 x1 x2 x3 x4
        have HXL6 := Lib.hid (HXL5.out.below hb6)
        have HXE6 := Lib.hid (HXE5.out.below hb6)
        clear y0 y1 y2 y3 y4
        obtain ⟨y0, y1, y2, y3, y4, _, _, _, _, _⟩ := HXL6.out
        obtain ⟨x0, x1, x2, x3, x4, _, _, _, _, _⟩ := HXE6.out
        go_wp2_with fail
        refine (PutVar_spec a6 n6 c6 (_) (ed.wt) _ (ho6.rd) (app8 (app8 HZ8.out (vdig8 _)) (vdig8 _)) (by unfold In64; omega) (by omega)).mono ?_
        rintro e w7 ⟨a7, n7, c7, rfl, ho7, hb7⟩
        rw [putVarF_yes _ (numB_true (by omega) (by omega))] at ho7 ⊢
        simp only at ho7
        have BB7 := BB6.trans (hb7.mono BB6.size)
        have hn7 : n7 ≤ r + 6 := by (have e1 := ho7.len; have e2 := HOA.out.len; simp only [List.length_append] at e1; omega)
        clear x0 x1 x2 x3 x4
        have HXL7 := Lib.hid (HXL6.out.below hb7)
        have HXE7 := Lib.hid (HXE6.out.below hb7)
        clear y0 y1 y2 y3 y4
        obtain ⟨y0, y1, y2, y3, y4, _, _, _, _, _⟩ := HXL7.out
        obtain ⟨x0, x1, x2, x3, x4, _, _, _, _, _⟩ := HXE7.out
        go_wp2_with fail
        refine (PutZig_spec a7 n7 c7 (_) (ed.ix - p.ix) _ (ho7.rd) (app8 (app8 (app8 HZ8.out (vdig8 _)) (vdig8 _)) (vdig8 _)) (by unfold In64; omega) (by omega)).mono ?_
        rintro e w8 ⟨a8, n8, c8, rfl, ho8, hb8⟩
        rw [putZigF_yes _ (zigB_yes (by omega) (by omega))] at ho8 ⊢
        simp only at ho8
        have BB8 := BB7.trans (hb8.mono BB7.size)
        clear x0 x1 x2 x3 x4
        have HXL8 := Lib.hid (HXL7.out.below hb8)
        have HXE8 := Lib.hid (HXE7.out.below hb8)
        clear y0 y1 y2 y3 y4
        obtain ⟨y0, y1, y2, y3, y4, _, _, _, _, _⟩ := HXL8.out
        obtain ⟨x0, x1, x2, x3, x4, _, _, _, _, _⟩ := HXE8.out
        have HFIN : Hid (ShInvS lo hi xs w w4.heap.size (k + 1) a8 n8 c8 (((((w8.setCell ⟨w4.heap.size, 0, none⟩ (.int .i64 ed.fr)).setCell ⟨w4.heap.size, 1, none⟩ (.int .i64 ed.to)).setCell ⟨w4.heap.size, 2, none⟩ (.int .i64 ed.wt)).setCell ⟨w4.heap.size, 3, none⟩ (.int .i64 ed.ix)).setCell ⟨w4.heap.size, 4, none⟩ (.int .i64 ed.val))) := by
          rw [HED.out] at ho8 HNXT ⊢
          exact Lib.hid (ShInvS.fin ho8 HXL7.out.lt BB7.size HXL8.out BB8 HNXT.out (by omega))
        obtain ⟨_, _, _, _, _, z0, z1, z2, z3, z4⟩ := HXL8.out
        clear ho5 ho6 ho7 ho8 hb5 hb6 hb7 hb8
        go_wp2
        go_roundw
        case rel => exact ⟨k + 1, a8, n8, c8, by omega, by go_num, rfl, HFIN⟩
        case measure => simp [intOf]; omega
      · obtain rfl : k = m := by omega
        go_wp2
        go_ret2
        rw [HF.out]
        have e := HI.out
        rw [← hL.out] at e
        exact RetBK.of e.own e.bel (by have := shTo_len HOK.out xs.length (Nat.le_refl _); have := e.own.len; have := hL.out; omega)
  | false =>
    have HF : Hid (shardBytesF (lo, hi, xs) = ([], false)) := Lib.hid (shardBytesF_no (D := (lo, hi, xs)) hok)
    have HOK := Lib.hid hok
    clear hok
    go_enter Try.func50, Try.ntmps50
    go_wp2_with fail
    refine (shardOk_spec lo hi a m cap xs _ (h.below hb0 (Nat.le_refl _))).mono ?_
    rintro e w1 ⟨rfl, hb1⟩
    rw [HOK.out]
    have BB1 := hb0.trans (hb1.mono hb0.size)
    go_wp2
    go_ret2
    rw [HF.out]
    exact RetBK.none BB1
theorem shardBytes_spec_k (y : ShardR) (D : Int × Int × List SEdgeR) (hD : datShard y = D) (w : World) (g : goodShard w y) :
    Calls Try.prog 50 #[.agg #[.int .i64 y.lo, .int .i64 y.hi, .slice y.edgesA y.edgesN y.edgesC]] w fun e w' => RetBK (shardBytesF D) w e w' := by
  subst hD
  exact shardBytes_spec_r _ _ _ _ _ _ _ g.2.2.1
end Go.Proofs.Ytkgalkaafocnjaa

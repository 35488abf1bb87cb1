/- ShardRead: what it computes. -/
import Derived.Test.YtkgalkaafocnjaaShardM
import Derived.Test.YtkgalkaafocnjaaShardBytes
import Derived.Test.YtkgalkaafocnjaaByteSK
import Derived.Test.YtkgalkaafocnjaaShardK
import Derived.Test.YtkgalkaafocnjaaStr
import Derived.Test.YtkgalkaafocnjaaStepM
namespace Go.Proofs.Ytkgalkaafocnjaa
open Go.RowKit
/-- ShardRead's end. -/
def RetSrK (r : (Int × Int × List SEdgeR) × Int × Bool) (w : World) (en : Ending) (w' : World) : Prop := ∃ y : ShardR, en = .returned (.tuple #[.agg #[.int .i64 y.lo, .int .i64 y.hi, .slice y.edgesA y.edgesN y.edgesC], .int .i64 r.2.1, .bool r.2.2]) ∧ datShard y = r.1 ∧ OwnShard w.heap.size w'.heap.size w' y ∧ bulkShard y ≤ 1048576 ∧ Below w.heap.size w w'
theorem RetSrK.zero {w w' : World} (hb : Below w.heap.size w w') : RetSrK ((0, 0, []), 0, false) w (.returned (.tuple #[.agg #[.int .i64 0, .int .i64 0, .slice none 0 0], .int .i64 0, .bool false])) w' :=
  ⟨⟨0, 0, none, 0, 0, []⟩, rfl, rfl, ⟨OwnS.nilS _ _, Nat.le_refl _⟩, Nat.zero_le _, hb⟩
theorem RetSrK.of {w w' : World} {lo hi p : Int} {A : Option Addr} {m C : Nat} {es : List SEdgeR} (ho : OwnS encSEdge 5 92 w.heap.size w'.heap.size w' A m C es) (hb : Below w.heap.size w w') (hm : m ≤ 1048576) : RetSrK ((lo, hi, es), p, true) w (.returned (.tuple #[.agg #[.int .i64 lo, .int .i64 hi, .slice A m C], .int .i64 p, .bool true])) w' :=
  ⟨⟨lo, hi, A, m, C, es⟩, rfl, rfl, ⟨ho, Nat.le_refl _⟩, hm, hb⟩
theorem keepSd {w : World} {Sb R B : Nat} {x0 x1 x2 x3 : Value} (h : w.cell? ⟨Sb, 0, none⟩ = some x0 ∧ w.cell? ⟨Sb, 1, none⟩ = some x1 ∧ w.cell? ⟨Sb, 2, none⟩ = some x2 ∧ w.cell? ⟨R, 1, none⟩ = some x3 ∧ w.cell? ⟨B, 0, none⟩ = some (cellV w ⟨B, 0, none⟩) ∧ w.cell? ⟨B, 1, none⟩ = some (cellV w ⟨B, 1, none⟩) ∧ w.cell? ⟨B, 2, none⟩ = some (cellV w ⟨B, 2, none⟩) ∧ w.frozen? ⟨B, 0, none⟩ = false ∧ w.frozen? ⟨B, 1, none⟩ = false ∧ w.frozen? ⟨B, 2, none⟩ = false) : w.drew.cell? ⟨Sb, 0, none⟩ = some x0 ∧ w.drew.cell? ⟨Sb, 1, none⟩ = some x1 ∧ w.drew.cell? ⟨Sb, 2, none⟩ = some x2 ∧ w.drew.cell? ⟨R, 1, none⟩ = some x3 ∧ w.drew.cell? ⟨B, 0, none⟩ = some (cellV w.drew ⟨B, 0, none⟩) ∧ w.drew.cell? ⟨B, 1, none⟩ = some (cellV w.drew ⟨B, 1, none⟩) ∧ w.drew.cell? ⟨B, 2, none⟩ = some (cellV w.drew ⟨B, 2, none⟩) ∧ w.drew.frozen? ⟨B, 0, none⟩ = false ∧ w.drew.frozen? ⟨B, 1, none⟩ = false ∧ w.drew.frozen? ⟨B, 2, none⟩ = false := h
theorem keepSp {w : World} {Sb R B : Nat} {x0 x1 x2 x3 : Value} (u0 u1 u2 : Value) (h1 : B ≠ Sb) (h2 : B ≠ R) (h : w.cell? ⟨Sb, 0, none⟩ = some x0 ∧ w.cell? ⟨Sb, 1, none⟩ = some x1 ∧ w.cell? ⟨Sb, 2, none⟩ = some x2 ∧ w.cell? ⟨R, 1, none⟩ = some x3 ∧ w.cell? ⟨B, 0, none⟩ = some (cellV w ⟨B, 0, none⟩) ∧ w.cell? ⟨B, 1, none⟩ = some (cellV w ⟨B, 1, none⟩) ∧ w.cell? ⟨B, 2, none⟩ = some (cellV w ⟨B, 2, none⟩) ∧ w.frozen? ⟨B, 0, none⟩ = false ∧ w.frozen? ⟨B, 1, none⟩ = false ∧ w.frozen? ⟨B, 2, none⟩ = false) : (((w.setCell ⟨B, 0, none⟩ u0).setCell ⟨B, 1, none⟩ u1).setCell ⟨B, 2, none⟩ u2).cell? ⟨Sb, 0, none⟩ = some x0 ∧ (((w.setCell ⟨B, 0, none⟩ u0).setCell ⟨B, 1, none⟩ u1).setCell ⟨B, 2, none⟩ u2).cell? ⟨Sb, 1, none⟩ = some x1 ∧ (((w.setCell ⟨B, 0, none⟩ u0).setCell ⟨B, 1, none⟩ u1).setCell ⟨B, 2, none⟩ u2).cell? ⟨Sb, 2, none⟩ = some x2 ∧ (((w.setCell ⟨B, 0, none⟩ u0).setCell ⟨B, 1, none⟩ u1).setCell ⟨B, 2, none⟩ u2).cell? ⟨R, 1, none⟩ = some x3 ∧ (((w.setCell ⟨B, 0, none⟩ u0).setCell ⟨B, 1, none⟩ u1).setCell ⟨B, 2, none⟩ u2).cell? ⟨B, 0, none⟩ = some (cellV (((w.setCell ⟨B, 0, none⟩ u0).setCell ⟨B, 1, none⟩ u1).setCell ⟨B, 2, none⟩ u2) ⟨B, 0, none⟩) ∧ (((w.setCell ⟨B, 0, none⟩ u0).setCell ⟨B, 1, none⟩ u1).setCell ⟨B, 2, none⟩ u2).cell? ⟨B, 1, none⟩ = some (cellV (((w.setCell ⟨B, 0, none⟩ u0).setCell ⟨B, 1, none⟩ u1).setCell ⟨B, 2, none⟩ u2) ⟨B, 1, none⟩) ∧ (((w.setCell ⟨B, 0, none⟩ u0).setCell ⟨B, 1, none⟩ u1).setCell ⟨B, 2, none⟩ u2).cell? ⟨B, 2, none⟩ = some (cellV (((w.setCell ⟨B, 0, none⟩ u0).setCell ⟨B, 1, none⟩ u1).setCell ⟨B, 2, none⟩ u2) ⟨B, 2, none⟩) ∧ (((w.setCell ⟨B, 0, none⟩ u0).setCell ⟨B, 1, none⟩ u1).setCell ⟨B, 2, none⟩ u2).frozen? ⟨B, 0, none⟩ = false ∧ (((w.setCell ⟨B, 0, none⟩ u0).setCell ⟨B, 1, none⟩ u1).setCell ⟨B, 2, none⟩ u2).frozen? ⟨B, 1, none⟩ = false ∧ (((w.setCell ⟨B, 0, none⟩ u0).setCell ⟨B, 1, none⟩ u1).setCell ⟨B, 2, none⟩ u2).frozen? ⟨B, 2, none⟩ = false := by
  obtain ⟨c0, c1, c2, c3, d0, d1, d2, f0, f1, f2⟩ := h
  have e : (((w.setCell ⟨B, 0, none⟩ u0).setCell ⟨B, 1, none⟩ u1).setCell ⟨B, 2, none⟩ u2) = w.setCells B 0 [u0, u1, u2] := rfl
  have th : w.there B 0 3 := there_of (fun j hj => by
    match j, hj with
    | 0, _ => exact ⟨_, d0⟩
    | 1, _ => exact ⟨_, d1⟩
    | 2, _ => exact ⟨_, d2⟩) (fun j hj => by
    match j, hj with
    | 0, _ => exact f0
    | 1, _ => exact f1
    | 2, _ => exact f2)
  have t2 := World.there_setCells th B 0 [u0, u1, u2]
  have far : ∀ b q, B ≠ b → (w.setCells B 0 [u0, u1, u2]).cell? ⟨b, q, none⟩ = w.cell? ⟨b, q, none⟩ := fun b q hne => World.cell?_setCells_out B _ 0 w ⟨b, q, none⟩ (fun e _ => absurd e.symm hne)
  have cv : ∀ q, q < 3 → (w.setCells B 0 [u0, u1, u2]).cell? ⟨B, q, none⟩ = some (cellV (w.setCells B 0 [u0, u1, u2]) ⟨B, q, none⟩) := fun q hq => by
    obtain ⟨d, hd⟩ := Option.isSome_iff_exists.1 (t2 q hq).1
    rw [Nat.zero_add] at hd
    exact cellV_of hd
  rw [e]
  exact ⟨(far _ _ h1).trans c0, (far _ _ h1).trans c1, (far _ _ h1).trans c2, (far _ _ h2).trans c3, cv 0 (by omega), cv 1 (by omega), cv 2 (by omega), (t2 0 (by omega)).2, (t2 1 (by omega)).2, (t2 2 (by omega)).2⟩
theorem shardReadF_small {zs : List Int} {p : Int} {s : Int × Int × List SEdgeR} {p' : Int} (h : shardReadF zs p = (s, p', true)) : s.2.2.length ≤ 400 := by
  unfold shardReadF at h
  cases hc : ((readSh zs p).1 && shOkB (readSh zs p).2.1) with
  | false => rw [hc] at h; simp at h
  | true =>
    rw [hc] at h
    simp only [if_true, Prod.mk.injEq] at h
    simp only [Bool.and_eq_true] at hc
    rw [← h.1]
    exact (shardB_yes hc.2).2.2.2.1
set_option maxRecDepth 100000 in
set_option maxHeartbeats 1600000 in
theorem shardRead_impl_k (y : Row Int) (D : List Int) (hD : datByteS y = D) (p : Int) (w : World) (g : rdByteS w y) (o : ∀ z ∈ D, In8 z) (g1 : In64 p) (hn : bulkByteS y ≤ 1048576) :
    Calls Try.prog 56 #[.slice y.a y.n y.c, .int .i64 p] w fun e w' => RetSrK (shardReadF D p) w e w' := by
  have hn' : y.n ≤ 1048576 := hn
  have hb0 := ((Below.refl w.heap.size w).alloc (Nat.le_refl _) (.cells #[.int .i64 0, .int .i64 0, .slice none 0 0] 64)).alloc (by simp) (.cells #[.slice y.a y.n y.c, .int .i64 p, .bool true] 79)
  have HRD : Hid (Rdr ((w.alloc (.cells #[.int .i64 0, .int .i64 0, .slice none 0 0] 64)).alloc (.cells #[.slice y.a y.n y.c, .int .i64 p, .bool true] 79)) (w.heap.size + 1) y.a y.n y.c p true) := Lib.hid ⟨by simp [go_sem], by simp [go_sem], by simp [go_sem], by simp [go_sem], by simp [go_sem]⟩
  have HB0 : Hid (Box3 ((w.alloc (.cells #[.int .i64 0, .int .i64 0, .slice none 0 0] 64)).alloc (.cells #[.slice y.a y.n y.c, .int .i64 p, .bool true] 79)) w.heap.size 0 0 none 0 0) := Lib.hid ((Box3.new w 0 0 none 0 0 _).below ((Below.refl _ _).alloc (Nat.le_refl _) _))
  go_enter Try.func56, Try.ntmps56
  go_wp2_with fail
  refine (shard_any (w.heap.size + 1) y.a y.n y.c D p w _ (by subst hD; exact g) hb0 (Nat.le_succ _) HRD.out o g1 hn').mono ?_
  rintro e w1 ⟨⟨lo, hi, A, m, C, es⟩, p', ok', rfl, hR, hO, hW, hbk, hyes, hno⟩
  have hB1 := HB0.out.keep (hW.block w.heap.size (by simp; omega) (by omega))
  have hsz1 := hW.size
  simp only [World.size_alloc] at hsz1
  simp only at hO hbk hyes ⊢
  have BB1 : Below w.heap.size w w1 := hb0.trans (hW.below (by omega) (by simp; omega))
  cases ok' with
  | false =>
    have HF := Lib.hid (hno rfl)
    clear hyes hno hO
    obtain ⟨d0, d1, d2, e1, e2⟩ := hR
    obtain ⟨r0, r1, r2, r3, r4, r5⟩ := hB1
    have hz1 : w.heap.size < w1.heap.size := by omega
    have hz2 : w.heap.size + 1 < w1.heap.size := by omega
    go_wp2
    refine bodyPost_ret (v := .tuple #[.agg #[.int .i64 0, .int .i64 0, .slice none 0 0], .int .i64 0, .bool false]) (by simp [results, Try.results56, go_sem, hz1, r0, r1, r2]) rfl ?_
    rw [HF.out]
    exact RetSrK.zero ((BB1.trans ((put3_win w1 w.heap.size _ _ _).below (Nat.le_refl _) BB1.size)).alloc (by simp only [size_set]; exact BB1.size) _)
  | true =>
    have HF := Lib.hid (hyes rfl)
    have HSM : Hid (es.length ≤ 400) := Lib.hid (shardReadF_small (hyes rfl))
    have HOW := Lib.hid hO
    have hbA := (Below.refl w1.heap.size w1).alloc (Nat.le_refl _) (.cells #[.int .i64 lo, .int .i64 hi, .slice A m C] 64)
    have BBA := BB1.trans (hbA.mono BB1.size)
    have hRA := hR.below hbA
    have hBA := hB1.below hbA
    have hSA := Box3.new w1 lo hi A m C 64
    have HOA := Lib.hid (((hO.below hbA).lo_le (lo' := w.heap.size + 2) (by simp)).grow hbA.size (Nat.le_refl _))
    clear hyes hno hO
    obtain ⟨d0, d1, d2, e1, e2⟩ := hR
    have hz2 : w.heap.size + 1 < w1.heap.size := by omega
    go_wp2_with fail
    obtain ⟨q0, q1, q2, _, _⟩ := hRA
    obtain ⟨r0, r1, r2, r3, r4, r5⟩ := hBA
    obtain ⟨s0, s1, s2, _, _, _⟩ := hSA
    have hn1 : w.heap.size ≠ w1.heap.size := by omega
    have hn2 : w.heap.size ≠ w.heap.size + 1 := by omega
    have hzW : w.heap.size < (w1.alloc (.cells #[.int .i64 lo, .int .i64 hi, .slice A m C] 64)).heap.size := by simp; omega
    clear hbA d0 d1 d2 e1 e2 hB1
    generalize w1.alloc (.cells #[.int .i64 lo, .int .i64 hi, .slice A m C] 64) = W at *
    have SS : Hid (W.cell? ⟨w1.heap.size, 0, none⟩ = some (.int .i64 lo) ∧ W.cell? ⟨w1.heap.size, 1, none⟩ = some (.int .i64 hi) ∧ W.cell? ⟨w1.heap.size, 2, none⟩ = some (.slice A m C) ∧ W.cell? ⟨w.heap.size + 1, 1, none⟩ = some (.int .i64 p') ∧ W.cell? ⟨w.heap.size, 0, none⟩ = some (cellV W ⟨w.heap.size, 0, none⟩) ∧ W.cell? ⟨w.heap.size, 1, none⟩ = some (cellV W ⟨w.heap.size, 1, none⟩) ∧ W.cell? ⟨w.heap.size, 2, none⟩ = some (cellV W ⟨w.heap.size, 2, none⟩) ∧ W.frozen? ⟨w.heap.size, 0, none⟩ = false ∧ W.frozen? ⟨w.heap.size, 1, none⟩ = false ∧ W.frozen? ⟨w.heap.size, 2, none⟩ = false) := Lib.hid ⟨s0, s1, s2, q1, cellV_of r0, cellV_of r1, cellV_of r2, r3, r4, r5⟩
    clear q0 q2
    go_region_held3 (fun w' => w'.cell? ⟨w1.heap.size, 0, none⟩ = some (.int .i64 lo) ∧ w'.cell? ⟨w1.heap.size, 1, none⟩ = some (.int .i64 hi) ∧ w'.cell? ⟨w1.heap.size, 2, none⟩ = some (.slice A m C) ∧ w'.cell? ⟨w.heap.size + 1, 1, none⟩ = some (.int .i64 p') ∧ w'.cell? ⟨w.heap.size, 0, none⟩ = some (cellV w' ⟨w.heap.size, 0, none⟩) ∧ w'.cell? ⟨w.heap.size, 1, none⟩ = some (cellV w' ⟨w.heap.size, 1, none⟩) ∧ w'.cell? ⟨w.heap.size, 2, none⟩ = some (cellV w' ⟨w.heap.size, 2, none⟩) ∧ w'.frozen? ⟨w.heap.size, 0, none⟩ = false ∧ w'.frozen? ⟨w.heap.size, 1, none⟩ = false ∧ w'.frozen? ⟨w.heap.size, 2, none⟩ = false)
      (first | exact keepSd SS.out | exact keepSp _ _ _ hn1 hn2 (by assumption)) (fail)
    have hwp := put3_win W w.heap.size (.int .i64 lo) (.int .i64 hi) (.slice A m C)
    go_wp2
    refine bodyPost_ret (v := .tuple #[.agg #[.int .i64 lo, .int .i64 hi, .slice A m C], .int .i64 p', .bool true]) (by simp [results, Try.results56, go_sem, r0, r1, r2]) rfl ?_
    rw [HF.out]
    exact RetSrK.of ((((HOA.out.win hwp (Or.inl (by omega))).below (Below.refl _ _).drew).lo_le (by omega)).grow (by simp only [World.size_drew, size_set]; exact Nat.le_refl _) (Nat.le_refl _)) ((BBA.trans (hwp.below (Nat.le_refl _) BBA.size)).drew) (by have := HSM.out; have := HOA.out.len; omega)
set_option maxRecDepth 100000 in
set_option maxHeartbeats 16000000 in
theorem shardRead_spec_r (a : Option Addr) (n cap : Nat) (zs : List Int) (p : Int) (w : World) (h : Rd (encI .u8) 1 w a n cap zs) (g0 : ∀ y ∈ zs, In8 y) (g1 : In64 p) (hn : n ≤ 1048576) :
    Calls Try.prog 55 #[.slice a n cap, .int .i64 p] w fun e w' => RetSrK (shardReadF zs p) w e w' := by
  have HL := Lib.hid h.len
  have hmx := h.max
  have hle := h.le
  unfold maxLen at hmx
  obtain ⟨i0, ji, jz0, jz1, jz2⟩ := info_parts infoSEdge
  have hb0 := ((Below.refl w.heap.size w).alloc (Nat.le_refl _) (.cells #[.int .i64 0, .int .i64 0, .slice none 0 0] 64)).alloc (by simp) (.cells #[.slice a n cap, .int .i64 p, .bool false] 99)
  have HRD0 : Hid (Rdr ((w.alloc (.cells #[.int .i64 0, .int .i64 0, .slice none 0 0] 64)).alloc (.cells #[.slice a n cap, .int .i64 p, .bool false] 99)) (w.heap.size + 1) a n cap p (!true)) := Lib.hid ⟨by simp [go_sem], by simp [go_sem], by simp [go_sem], by simp [go_sem], by simp [go_sem]⟩
  have HB0 : Hid (Box3 ((w.alloc (.cells #[.int .i64 0, .int .i64 0, .slice none 0 0] 64)).alloc (.cells #[.slice a n cap, .int .i64 p, .bool false] 99)) w.heap.size 0 0 none 0 0) := Lib.hid ((Box3.new w 0 0 none 0 0 _).below ((Below.refl _ _).alloc (Nat.le_refl _) _))
  go_enter Try.func55, Try.ntmps55
  go_wp2_with fail
  refine (var_rd (w.heap.size + 1) a n cap zs p true w _ h hb0 HRD0.out g0 g1 (by omega)).mono ?_
  rintro e w1 ⟨v1, p1, o1, rfl, hR1, hW1, hQ1⟩
  have HQ1 := Lib.hid hQ1
  have hb1 : Below w.heap.size w w1 := hb0.trans (hW1.below (Nat.le_succ _) (by simp; omega))
  have HB1 := Lib.hid (HB0.out.keep (hW1.block w.heap.size (by simp; omega) (by omega)))
  have hR1l := hR1.lt
  clear hQ1 hW1
  go_wp2_with fail
  refine (var_rd (w.heap.size + 1) a n cap zs p1 o1 w _ h hb1 hR1 g0 HQ1.out.at' (by omega)).mono ?_
  rintro e w2 ⟨v2, p2, o2, rfl, hR2, hW2, hQ2⟩
  have HQ2 := Lib.hid hQ2
  have hb2 : Below w.heap.size w w2 := hb1.trans (hW2.below (Nat.le_succ _) hb1.size)
  have HB2 := Lib.hid (HB1.out.keep (hW2.block w.heap.size HB1.out.lt (by omega)))
  have hR2l := hR2.lt
  clear hQ2 hW2 hR1
  have hbS := (Below.refl w2.heap.size w2).alloc (Nat.le_refl _) (.cells #[.int .i64 v1, .int .i64 v2, .slice none 0 0] 64)
  have hbL := hbS.alloc (by simp) (.cells #[.int .i64 0, .int .i64 v1, .int .i64 0, .int .i64 0, .int .i64 0] 92)
  have HSx : Hid (Box3 ((w2.alloc (.cells #[.int .i64 v1, .int .i64 v2, .slice none 0 0] 64)).alloc (.cells #[.int .i64 0, .int .i64 v1, .int .i64 0, .int .i64 0, .int .i64 0] 92)) w2.heap.size v1 v2 none 0 0) := Lib.hid ((Box3.new w2 v1 v2 none 0 0 64).below ((Below.refl _ _).alloc (Nat.le_refl _) _))
  have HLx : Hid (Box5 ((w2.alloc (.cells #[.int .i64 v1, .int .i64 v2, .slice none 0 0] 64)).alloc (.cells #[.int .i64 0, .int .i64 v1, .int .i64 0, .int .i64 0, .int .i64 0] 92)) (w2.heap.size + 1) ⟨0, v1, 0, 0, 0⟩) := Lib.hid (by
    have e := Box5.new (w2.alloc (.cells #[.int .i64 v1, .int .i64 v2, .slice none 0 0] 64)) ⟨0, v1, 0, 0, 0⟩ 92
    rw [World.size_alloc] at e
    exact e)
  go_wp2_with fail
  refine (var_rd (w.heap.size + 1) a n cap zs p2 o2 w _ h (hb2.trans (hbL.mono hb2.size)) (hR2.below hbL) g0 HQ2.out.at' (by omega)).mono ?_
  rintro e w3 ⟨v3, p3, o3, rfl, hR3, hW3, hQ3⟩
  obtain ⟨N, rfl⟩ := Int.eq_ofNat_of_zero_le hQ3.v0
  have HQ3 := Lib.hid hQ3
  have hNb := hQ3.v1
  have hW03 : Win (w.heap.size + 1) (w.heap.size + 1 + 1) w w3 := (Win.of_below (hb2.trans (hbL.mono hb2.size))).trans hW3
  have hb3 : Below w.heap.size w w3 := hW03.below (Nat.le_succ _) (Nat.le_refl _)
  have hszL : w2.heap.size + 1 + 1 ≤ w3.heap.size := by have := hW3.size; simp at this; omega
  have HI0 : Hid (RdInv not zs (w.heap.size + 1) a n cap w w2.heap.size (w2.heap.size + 1) v1 v2 o3 N ⟨0, v1, 0, 0, 0⟩ p3 0 p3 o3 [] ⟨0, v1, 0, 0, 0⟩ none 0 w3) := by
    exact Lib.hid ⟨hR3, HLx.out.keep (hW3.block _ HLx.out.lt (by omega)), HSx.out.keep (hW3.block _ HSx.out.lt (by omega)), OwnS.nilS _ _, (fun e => by cases e), (fun e => by cases e), (fun e => by cases e), by omega, by omega, by omega, by omega, (HB2.out.below hbL).keep (hW3.block _ (by have := HB2.out.lt; simp; omega) (by omega)), (fun e => by cases e), HQ3.out.at', by omega, (fun h3 => by have := (read_head HQ1.out HQ2.out HQ3.out).1 h3; have := HL.out; omega), (fun h3 => ⟨h3, by rw [Nat.sub_zero, List.nil_append]⟩), (fun h3 => by rw [h3]; rfl), hW03⟩
  clear hQ3 hW3 hR2 hbS hbL hR3 hb0 hb1 hb2
  go_wp2
  go_loopg [10] N (fun gh v wr => ∃ (j : Nat) (p' : Int) (ok : Bool) (es : List SEdgeR) (l : SEdgeR) (A : Option Addr) (C : Nat), gh + j = N ∧ v = .int .i64 gh ∧ Hid (RdInv not zs (w.heap.size + 1) a n cap w w2.heap.size (w2.heap.size + 1) v1 v2 o3 N ⟨0, v1, 0, 0, 0⟩ p3 j p' ok es l A C wr))
  case atStart => exact ⟨0, p3, o3, [], ⟨0, v1, 0, 0, 0⟩, none, 0, by omega, rfl, HI0⟩
  case round =>
    obtain ⟨j, p', ok, es, l, A, C, hj, rfl, HI⟩ := hrel
    obtain ⟨d0, d1, d2, e1, e2⟩ := HI.out.rdr
    have hws := HI.out.ws
    by_cases hjN : 0 < gk
    · have hjNi : (0 : Int) < (gk : Int) := by omega
      cases ok with
      | true =>
        simp only [Bool.not_true] at d2
        go_upto_region 7 with fail
        go_cut [11] from 28 to 63 (fun s11 wx => ∃ (E : Nat) (e : SEdgeR) (p4 : Int) (o4 : Bool), s11 = .pointer (some ⟨E, 0, none⟩) ∧ Hid (RdMid not zs (w.heap.size + 1) a n cap w w2.heap.size (w2.heap.size + 1) v1 v2 j p' es l A C E e p4 o4 wx))
        case first =>
          obtain ⟨w0, hw0⟩ : ∃ w0 : World, w0 = w := ⟨_, rfl⟩
          have hRw : w0.heap.size ≤ w.heap.size + 1 := by rw [hw0]; omega
          have HRD : Hid (Rdr wr (w.heap.size + 1) a n cap p' (!true)) := Lib.hid HI.out.rdr
          have hInp := HI.out.at'
          have hRr := HI.out.rdr.lt
          have hBr : Below w0.heap.size w0 wr := by rw [hw0]; exact HI.out.win.below (Nat.le_succ _) (Nat.le_refl _)
          have h : Rd (encI .u8) 1 w0 a n cap zs := by rw [hw0]; exact h
          clear hw0
          have hRL : w.heap.size + 1 < w2.heap.size + 1 := by omega
          have hLr := HI.out.box.lt
          obtain ⟨y0, y1, _, y3, _, _, _, _, _, _⟩ := HI.out.box
          clear d0 d1 d2 e1 e2
          go_region_held3 (fun w' => w'.cell? ⟨w2.heap.size + 1, 0, none⟩ = some (.int .i64 l.fr) ∧ w'.cell? ⟨w2.heap.size + 1, 1, none⟩ = some (.int .i64 l.to) ∧ w'.cell? ⟨w2.heap.size + 1, 3, none⟩ = some (.int .i64 l.ix) ∧ Win (w.heap.size + 1) ((w.heap.size + 1) + 1) wr w')
            (first | with_reducible exact keepP hRL hLr (by omega) (by assumption) | with_reducible exact keepR hRL (by omega) (by assumption) hWrd.out | with_reducible exact keepA _ hRL (by assumption) | with_reducible exact keepD hRL (by assumption) | with_reducible exact keepW (by assumption) hRL (by assumption) | with_reducible exact ⟨y0, y1, y3, Win.refl _ _ _⟩ | with_reducible exact keepD hRL ⟨y0, y1, y3, Win.refl _ _ _⟩ | with_reducible exact keepD hRL (keepA _ hRL ⟨y0, y1, y3, Win.refl _ _ _⟩))
            (first
              | (go_at_call 88; (with_reducible refine (var_rd (w.heap.size + 1) a n cap zs p' true w0 _ h (belW hBr hRw (by assumption)) (by first | exact HRD.out | exact HRD.out.dr | exact HRD.out.dr.al _ | exact (HRD.out.al _).dr) g0 hInp (by omega)).mono ?_); rintro e wa ⟨va, pa, oa, rfl, hRa, hWa, hQa⟩; have hsa := Nat.le_trans (sizeW (by assumption)) hWa.size; have HRA : Hid (Rdr wa (w.heap.size + 1) a n cap pa !oa) := Lib.hid hRa; have HQA := Lib.hid hQa; clear hRa hQa; have hInA := HQA.out.at'; have hla := HRA.out.lt; (first | (have hxa : Hid (Box5 wa wr.heap.size zE) := Lib.hid (box_al hWa hRr)) | (have hxa : Hid (Box5 wa wr.heap.size zE) := Lib.hid (box_al (w := wr) ((Win.of_below (Below.refl _ _).drew).trans hWa) hRr)) | skip); skip)
              | (go_at_call 89; (with_reducible refine (zigs_rd (w.heap.size + 1) a n cap zs pa oa w0 _ h (belW hBr hRw (by assumption)) (by first | exact HRA.out | exact HRA.out.al _) g0 hInA (by omega)).mono ?_); rintro e wb ⟨vb, pb, ob, rfl, hRb, hWb, hQb⟩; have hsb := Nat.le_trans (sizeW (by assumption)) hWb.size; have HRB : Hid (Rdr wb (w.heap.size + 1) a n cap pb !ob) := Lib.hid hRb; have HQB := Lib.hid hQb; clear hRb hQb; have hInB := HQB.out.at'; have hlb := HRB.out.lt; (first | (have hxb : Hid (Box5 wb wr.heap.size zE) := Lib.hid (box_keep hxa.out hWb hRr)) | (have hyb : Hid (Box5 wb wa.heap.size zE) := Lib.hid (box_al hWb hla)) | skip); skip)
              | (go_at_call 88; (with_reducible refine (var_rd (w.heap.size + 1) a n cap zs pb ob w0 _ h (belW hBr hRw (by assumption)) (by first | exact HRB.out | exact HRB.out.al _) g0 hInB (by omega)).mono ?_); rintro e wc ⟨vc, pc, oc, rfl, hRc, hWc, hQc⟩; have hsc := Nat.le_trans (sizeW (by assumption)) hWc.size; have HRC : Hid (Rdr wc (w.heap.size + 1) a n cap pc !oc) := Lib.hid hRc; have HQC := Lib.hid hQc; clear hRc hQc; have hInC := HQC.out.at'; have hlc := HRC.out.lt; (first | (have hxc : Hid (Box5 wc wr.heap.size zE) := Lib.hid (box_keep hxb.out hWc hRr)) | (have hyc : Hid (Box5 wc wa.heap.size zE) := Lib.hid (box_keep hyb.out hWc hla)) | (have hzc : Hid (Box5 wc wb.heap.size zE) := Lib.hid (box_al hWc hlb)) | skip); skip)
              | (go_at_call 89; (with_reducible refine (zigs_rd (w.heap.size + 1) a n cap zs pc oc w0 _ h (belW hBr hRw (by assumption)) (by first | exact HRC.out | exact HRC.out.al _) g0 hInC (by omega)).mono ?_); rintro e wd ⟨vd, pd, od, rfl, hRd, hWd, hQd⟩; have hsd := Nat.le_trans (sizeW (by assumption)) hWd.size; have hWrd := Lib.hid ((winW (by assumption)).trans hWd); have HRD2 : Hid (Rdr wd (w.heap.size + 1) a n cap pd !od) := Lib.hid hRd; have HQD := Lib.hid hQd; clear hRd hQd; have hld := HRD2.out.lt; (first | (have HXD : Hid (Box5 wd wr.heap.size zE) := Lib.hid (box_keep hxc.out hWd hRr)) | (have HXD : Hid (Box5 wd wa.heap.size zE) := Lib.hid (box_keep hyc.out hWd hla)) | (have HXD : Hid (Box5 wd wb.heap.size zE) := Lib.hid (box_keep hzc.out hWd hlb)) | (have HXD : Hid (Box5 wd wc.heap.size zE) := Lib.hid (box_al hWd hlc)) | skip); (try obtain ⟨z0, z1, z2, z3, z4, z5, z6, z7, z8, z9⟩ := HXD.out); skip))
          all_goals
            have HE : (⟨IntKind.i64.wrap (l.fr + va), IntKind.i64.wrap (l.to + vb), vc, IntKind.i64.wrap (l.ix + vd), 0⟩ : SEdgeR) = ⟨wrap64 (l.fr + va), wrap64 (l.to + vb), vc, wrap64 (l.ix + vd), 0⟩ := by rw [IntWalk.i64_left, IntWalk.i64_left, IntWalk.i64_left]
            have HWr := hWrd.out
            have hRd9 := HRD2.out
            go_wp2_with fail
            go_meet
            first
              | exact ⟨wd.heap.size, _, pd, od, rfl, Lib.hid (HI.out.mid HL.out HQA.out HQB.out HQC.out HQD.out (HWr.al _) hsd (hRd9.al _) (by rw [← HE]; exact Box5.new wd ⟨IntKind.i64.wrap (l.fr + va), IntKind.i64.wrap (l.to + vb), vc, IntKind.i64.wrap (l.ix + vd), 0⟩ _))⟩
              | exact ⟨_, _, pd, od, rfl, Lib.hid (HI.out.mid HL.out HQA.out HQB.out HQC.out HQD.out (((((HWr.put _ (by omega)).put _ (by omega)).put _ (by omega)).put _ (by omega)).put _ (by omega)) (by omega) (hRd9.keep ((put5_win wd _ ⟨IntKind.i64.wrap (l.fr + va), IntKind.i64.wrap (l.to + vb), vc, IntKind.i64.wrap (l.ix + vd), 0⟩).block (w.heap.size + 1) hRd9.lt (by omega))) (by rw [← HE]; exact HXD.out.put ⟨IntKind.i64.wrap (l.fr + va), IntKind.i64.wrap (l.to + vb), vc, IntKind.i64.wrap (l.ix + vd), 0⟩))⟩
        case rest =>
          obtain ⟨E, e, p4, o4, rfl, HM⟩ := hcut
          have hjb := HI.out.jb
          obtain ⟨x0, x1, x2, x3, x4, _, _, _, _, _⟩ := HM.out.boxE
          obtain ⟨t0, t1, t2, _, _, _⟩ := HM.out.sb
          have hEl := HM.out.boxE.lt
          have hSl := HM.out.sb.lt
          have hbase := HM.out.win.size
          have hbW : Below wc.heap.size wc (wc.alloc (.cells #[.int .i64 e.fr, .int .i64 e.to, .int .i64 e.wt, .int .i64 e.ix, .int .i64 e.val] 92)) := (Below.refl _ _).alloc (Nat.le_refl _) _
          go_wp2_with (at_builtin; refine app_two rfl _ _ 62 rfl w.heap.size 92 Try.underlying62 ji jz0 jz1 jz2 rfl (by decide) A j C (es.flatMap encSEdge) rfl ((HM.out.own.below hbW).own) ⟨wc.heap.size, 0, none⟩ 1 1 (encSEdge e) rfl rfl ?c1 (oneE e) (by decide) ?c2 ?c3 ?c4 ?_)
          case c1 => exact World.news_of_block (heap_alloc_new _ _)
          case c2 => unfold maxLen; omega
          case c3 => omega
          case c4 => simp; omega
          intro A2 C2 w9 ho2 hg2 hk2
          have blk : ∀ b, b < wc.heap.size → (Value.slice A j C).ownBlock ≠ some b → w9.heap[b]? = wc.heap[b]? := fun b hb hne => (hg2.block b (by simp; omega) (fun e1 => hne e1.symm)).trans (hbW.block b hb)
          have hE2 := HM.out.boxE.keep (blk E HM.out.boxE.lt HM.out.farE)
          have hL2 := HM.out.box.keep (blk (w2.heap.size + 1) HM.out.box.lt HM.out.farL)
          have hS2 := HM.out.sb.keep (blk w2.heap.size HM.out.sb.lt HM.out.farS)
          have HNX := Lib.hid (HM.out.next HI.out (by omega) 92 ho2 hg2 (by simpa using hk2) hn)
          have hneE : E ≠ w2.heap.size := by have := HI.out.sl; have := HM.out.le; omega
          clear ho2 hg2 hk2 blk x0 x1 x2 x3 x4 t0 t1 t2 hbW
          obtain ⟨x0, x1, x2, x3, x4, _, _, _, _, _⟩ := hE2
          obtain ⟨y0, y1, y2, y3, y4, y5, y6, y7, y8, y9⟩ := hL2
          obtain ⟨t0, t1, t2, t3, t4, t5⟩ := hS2
          go_wp2
          go_roundg (gk - 1)
          case measure => omega
          case rel => exact ⟨j + 1, p4, o4, es ++ [e], e, A2, C2, by omega, by go_num, HNX⟩
      | false =>
        simp only [Bool.not_false] at d2
        have HF := Lib.hid (shardReadF_bad (HI.out.bad HQ1.out HQ2.out HQ3.out))
        obtain ⟨s0, s1, s2, s3, s4, s5⟩ := HI.out.sb
        have BBr := HI.out.win.below (Nat.le_succ _) (Nat.le_refl _)
        go_wp2_with fail
        refine (shardBytes_spec_r v1 v2 A j C es _ (HI.out.own.rd lenSEdge)).mono ?_
        rintro e w9 ⟨⟨xa, xn, xc, xl⟩, rfl, hxd, hxo, hxk, hb9⟩
        have HIL := Lib.hid (HI.out.later hb9)
        have BB9 := BBr.trans (hb9.mono BBr.size)
        clear d0 d1 d2 e1 e2 s0 s1 s2 s3 s4 s5 hxd hxo
        obtain ⟨d0, d1, d2, e1, e2⟩ := HIL.out.rdr
        simp only [Bool.not_false] at d2
        obtain ⟨r0, r1, r2, r3, r4, r5⟩ := HIL.out.res
        have hzr := HIL.out.res.lt
        go_wp2_with fail
        go_quiet (fail)
        go_wp2
        refine bodyPost_ret (v := .tuple #[.agg #[.int .i64 0, .int .i64 0, .slice none 0 0], .int .i64 0, .bool false]) (by simp [results, Try.results55, go_sem, r0, r1, r2]) rfl ?_
        rw [HF.out]
        exact RetSrK.zero ((below_drewN BB9 nq).trans ((put3_win _ w.heap.size _ _ _).below (Nat.le_refl _) (below_drewN BB9 nq).size))
    · obtain rfl : gk = 0 := by omega
      obtain rfl : j = N := by omega
      cases ok with
      | true =>
        simp only [Bool.not_true] at d2
        have HG := Lib.hid (HI.out.good HQ1.out HQ2.out HQ3.out)
        obtain ⟨s0, s1, s2, s3, s4, s5⟩ := HI.out.sb
        have BBr := HI.out.win.below (Nat.le_succ _) (Nat.le_refl _)
        have hlow := HI.out.low rfl
        cases hsb : shardB v1 v2 es with
        | false =>
          have HSF := Lib.hid (shardBytesF_no (D := (v1, v2, es)) hsb)
          have HF := Lib.hid (shardReadF_no (zs := zs) (p := p) (by rw [HG.out]; exact hsb))
          clear hsb
          go_wp2_with fail
          refine (shardBytes_spec_r v1 v2 A j C es _ (HI.out.own.rd lenSEdge)).mono ?_
          rintro e w9 ⟨⟨xa, xn, xc, xl⟩, rfl, hxd, hxo, hxk, hb9⟩
          rw [HSF.out]
          have HIL := Lib.hid (HI.out.later hb9)
          have BB9 := BBr.trans (hb9.mono BBr.size)
          clear d0 d1 d2 e1 e2 s0 s1 s2 s3 s4 s5 hxd hxo
          obtain ⟨d0, d1, d2, e1, e2⟩ := HIL.out.rdr
          simp only [Bool.not_true] at d2
          obtain ⟨r0, r1, r2, r3, r4, r5⟩ := HIL.out.res
          have hzr := HIL.out.res.lt
          go_wp2_with fail
          go_quiet (fail)
          go_wp2
          refine bodyPost_ret (v := .tuple #[.agg #[.int .i64 0, .int .i64 0, .slice none 0 0], .int .i64 0, .bool false]) (by simp [results, Try.results55, go_sem, r0, r1, r2]) rfl ?_
          rw [HF.out]
          exact RetSrK.zero ((below_drewN BB9 nq).trans ((put3_win _ w.heap.size _ _ _).below (Nat.le_refl _) (below_drewN BB9 nq).size))
        | true =>
          have HSF := Lib.hid (shardBytesF_yes (D := (v1, v2, es)) hsb)
          have HSM : Hid (es.length ≤ 400) := Lib.hid (shardB_yes hsb).2.2.2.1
          have HF : Hid (shardReadF zs p = ((v1, v2, es), p', true)) := Lib.hid (by
            have e := HG.out
            rw [shardReadF_yes (by rw [e]) (by rw [e]; exact hsb), e])
          have hgt := readSh_lt (zs := zs) (p := p) (by rw [HG.out])
          obtain ⟨q, q', hpq, hpq', hqq, hsame⟩ := readSh_same g0 (p := p) (by rw [HG.out]) (by rw [HG.out]; exact hsb)
          rw [HG.out] at hpq' hsame
          simp only at hpq' hsame
          have HSAME := Lib.hid hsame
          clear hsb hsame HG
          subst hpq
          subst hpq'
          have HLz := HL.out
          rw [HLz] at hgt
          clear HLz
          obtain ⟨b1, off1, rfl, hbl1, hc1⟩ := h.ints (by omega)
          have HR := Lib.hid h
          go_wp2_with fail
          refine (shardBytes_spec_r v1 v2 A j C es _ (HI.out.own.rd lenSEdge)).mono ?_
          rintro e w9 ⟨⟨xa, xn, xc, xl⟩, rfl, hxd, hxo, hxk, hb9⟩
          rw [HSF.out] at hxd ⊢
          have HXR : Hid (Rd (encI .u8) 1 w9 xa xn xc (wnd zs q q')) := Lib.hid (by
            have e := hxo.rd
            unfold rdByteS at e
            have e2 : xl = wnd zs q q' := by rw [← HSAME.out]; exact hxd
            rw [← e2]
            exact e)
          have HIL := Lib.hid (HI.out.later hb9)
          have BB9 := BBr.trans (hb9.mono BBr.size)
          clear d0 d1 d2 e1 e2 s0 s1 s2 s3 s4 s5 hxd hxo hc1
          obtain ⟨d0, d1, d2, e1, e2⟩ := HIL.out.rdr
          simp only [Bool.not_true] at d2
          have hzr := HIL.out.res.lt
          have kW : ∀ nq, (convert 22 9 (.slice xa xn xc)).run Try.prog (w9.drewN nq) = .ok (.string (strOfNums (wnd zs q q'))) (w9.drewN nq) := fun nq => (HXR.out.drewN nq).str Try.underlying22 Try.underlying5 Try.underlying9
          have kB : ∀ nq, (convert 22 9 (.slice (some ⟨b1, off1 + q, none⟩) (q' - q) (cap - q))).run Try.prog (w9.drewN nq) = .ok (.string (strOfNums (wnd zs q q'))) (w9.drewN nq) := fun nq => (((HR.out.below BB9 (Nat.le_refl _)).window q q' hqq (by omega)).drewN nq).str (P := Try.prog) (dst := 9) Try.underlying22 Try.underlying5 Try.underlying9
          have hqc : q < cap := by omega
          have hqi : (q : Int) ≤ (q' : Int) := by omega
          have hqj : (q' : Int) ≤ (cap : Int) := by omega
          have h8w : ∀ y ∈ wnd zs q q', In8 y := fun y hy => g0 y (List.mem_of_mem_drop (List.mem_of_mem_take hy))
          have hse := str_eq h8w h8w
          rw [decide_eq_true rfl] at hse
          have HOA : Hid (OwnS encSEdge 5 92 (w.heap.size + 1) w9.heap.size w9 A j C es) := Lib.hid ⟨HIL.out.own.len, own_rebase HIL.out.own.own (fun g hg => by
            have h1 := (World.ownsRow.lt HIL.out.own.own g hg).1
            have hne : g ≠ w.heap.size := fun e => HIL.out.farB (by rw [← e]; exact hg)
            omega), HIL.out.own.lt, HIL.out.own.top, HIL.out.own.small⟩
          have hn1 : w.heap.size ≠ w2.heap.size := by omega
          have hn2 : w.heap.size ≠ w.heap.size + 1 := by omega
          go_wp2_with fail
          go_quiet (fail)
          go_wp2_with fail
          have BBA := below_drewN BB9 nq
          have hbn := below_drewN (Below.refl w9.heap.size w9) nq
          have hzW : w.heap.size < (w9.drewN nq).heap.size := Nat.lt_of_lt_of_le hzr hbn.size
          have HOA2 := Lib.hid ((HOA.out.below hbn).grow hbn.size (Nat.le_refl _))
          clear d0 d1 d2 e1 e2 kW kB hse h8w
          obtain ⟨q0, q1, q2, _, _⟩ := HIL.out.rdr.below hbn
          obtain ⟨r0, r1, r2, r3, r4, r5⟩ := HIL.out.res.below hbn
          obtain ⟨s0, s1, s2, _, _, _⟩ := HIL.out.sb.below hbn
          clear HOA hbn
          have HOA := HOA2
          clear HOA2
          generalize w9.drewN nq = W at *
          have SS : Hid (W.cell? ⟨w2.heap.size, 0, none⟩ = some (.int .i64 v1) ∧ W.cell? ⟨w2.heap.size, 1, none⟩ = some (.int .i64 v2) ∧ W.cell? ⟨w2.heap.size, 2, none⟩ = some (.slice A j C) ∧ W.cell? ⟨w.heap.size + 1, 1, none⟩ = some (.int .i64 (q' : Int)) ∧ W.cell? ⟨w.heap.size, 0, none⟩ = some (cellV W ⟨w.heap.size, 0, none⟩) ∧ W.cell? ⟨w.heap.size, 1, none⟩ = some (cellV W ⟨w.heap.size, 1, none⟩) ∧ W.cell? ⟨w.heap.size, 2, none⟩ = some (cellV W ⟨w.heap.size, 2, none⟩) ∧ W.frozen? ⟨w.heap.size, 0, none⟩ = false ∧ W.frozen? ⟨w.heap.size, 1, none⟩ = false ∧ W.frozen? ⟨w.heap.size, 2, none⟩ = false) := Lib.hid ⟨s0, s1, s2, q1, cellV_of r0, cellV_of r1, cellV_of r2, r3, r4, r5⟩
          clear q0 q2
          go_region_held3 (fun w' => w'.cell? ⟨w2.heap.size, 0, none⟩ = some (.int .i64 v1) ∧ w'.cell? ⟨w2.heap.size, 1, none⟩ = some (.int .i64 v2) ∧ w'.cell? ⟨w2.heap.size, 2, none⟩ = some (.slice A j C) ∧ w'.cell? ⟨w.heap.size + 1, 1, none⟩ = some (.int .i64 (q' : Int)) ∧ w'.cell? ⟨w.heap.size, 0, none⟩ = some (cellV w' ⟨w.heap.size, 0, none⟩) ∧ w'.cell? ⟨w.heap.size, 1, none⟩ = some (cellV w' ⟨w.heap.size, 1, none⟩) ∧ w'.cell? ⟨w.heap.size, 2, none⟩ = some (cellV w' ⟨w.heap.size, 2, none⟩) ∧ w'.frozen? ⟨w.heap.size, 0, none⟩ = false ∧ w'.frozen? ⟨w.heap.size, 1, none⟩ = false ∧ w'.frozen? ⟨w.heap.size, 2, none⟩ = false)
            (first | exact keepSd SS.out | exact keepSp _ _ _ hn1 hn2 (by assumption)) (fail)
          have hwp := put3_win W w.heap.size (.int .i64 v1) (.int .i64 v2) (.slice A j C)
          go_wp2
          refine bodyPost_ret (v := .tuple #[.agg #[.int .i64 v1, .int .i64 v2, .slice A j C], .int .i64 (q' : Int), .bool true]) (by simp [results, Try.results55, go_sem, r0, r1, r2]) rfl ?_
          rw [HF.out]
          exact RetSrK.of ((((HOA.out.win hwp (Or.inl (by omega))).below (Below.refl _ _).drew).lo_le (by omega)).grow (by simp only [World.size_drew, size_set]; exact Nat.le_refl _) (Nat.le_refl _)) ((BBA.trans (hwp.below (Nat.le_refl _) BBA.size)).drew) (by have := HSM.out; have := HOA.out.len; omega)
      | false =>
        simp only [Bool.not_false] at d2
        have HF := Lib.hid (shardReadF_bad (HI.out.bad HQ1.out HQ2.out HQ3.out))
        obtain ⟨s0, s1, s2, s3, s4, s5⟩ := HI.out.sb
        have BBr := HI.out.win.below (Nat.le_succ _) (Nat.le_refl _)
        go_wp2_with fail
        refine (shardBytes_spec_r v1 v2 A j C es _ (HI.out.own.rd lenSEdge)).mono ?_
        rintro e w9 ⟨⟨xa, xn, xc, xl⟩, rfl, hxd, hxo, hxk, hb9⟩
        have HIL := Lib.hid (HI.out.later hb9)
        have BB9 := BBr.trans (hb9.mono BBr.size)
        clear d0 d1 d2 e1 e2 s0 s1 s2 s3 s4 s5 hxd hxo
        obtain ⟨d0, d1, d2, e1, e2⟩ := HIL.out.rdr
        simp only [Bool.not_false] at d2
        obtain ⟨r0, r1, r2, r3, r4, r5⟩ := HIL.out.res
        have hzr := HIL.out.res.lt
        go_wp2_with fail
        go_quiet (fail)
        go_wp2
        refine bodyPost_ret (v := .tuple #[.agg #[.int .i64 0, .int .i64 0, .slice none 0 0], .int .i64 0, .bool false]) (by simp [results, Try.results55, go_sem, r0, r1, r2]) rfl ?_
        rw [HF.out]
        exact RetSrK.zero ((below_drewN BB9 nq).trans ((put3_win _ w.heap.size _ _ _).below (Nat.le_refl _) (below_drewN BB9 nq).size))
theorem shardRead_spec_k (y : Row Int) (D : List Int) (hD : datByteS y = D) (p : Int) (w : World) (g : rdByteS w y) (o : ∀ z ∈ D, In8 z) (g1 : In64 p) (hn : bulkByteS y ≤ 1048576) :
    Calls Try.prog 55 #[.slice y.a y.n y.c, .int .i64 p] w fun e w' => RetSrK (shardReadF D p) w e w' := by
  subst hD
  exact shardRead_spec_r _ _ _ _ _ _ g o g1 hn
end Go.Proofs.Ytkgalkaafocnjaa

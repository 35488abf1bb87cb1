/- WithVals: what it computes. -/
import Derived.Test.YtkgalkaafocnjaaShBP
import Derived.Test.YtkgalkaafocnjaaShardOkU
import Derived.Test.YtkgalkaafocnjaaShardK
import Derived.Test.YtkgalkaafocnjaaIntSK
import Derived.Test.YtkgalkaafocnjaaApp
import Derived.Test.YtkgalkaafocnjaaKeep
import Derived.StillTailTactics
namespace Go.Proofs.Ytkgalkaafocnjaa
open Go.RowKit
theorem flat_len {α : Type} {enc : α → List Value} {sz : Nat} (hs : ∀ x, (enc x).length = sz) : ∀ xs : List α, (xs.flatMap enc).length = xs.length * sz := by
  intro xs
  induction xs with
  | nil => simp
  | cons x r ih => rw [List.flatMap_cons, List.length_append, hs, ih, List.length_cons, Nat.succ_mul]; omega
theorem flat_get {α : Type} {enc : α → List Value} {sz : Nat} (hs : ∀ x, (enc x).length = sz) : ∀ (xs : List α) (i : Nat) (hi : i < xs.length) (f : Nat), f < sz → (xs.flatMap enc)[i * sz + f]? = (enc xs[i])[f]? := by
  intro xs
  induction xs with
  | nil => intro i hi; exact absurd hi (by simp)
  | cons y r ih =>
    intro i hi f hf
    rw [List.flatMap_cons]
    cases i with
    | zero =>
      rw [List.getElem?_append_left (by rw [hs]; omega)]
      simp
    | succ i =>
      rw [List.getElem?_append_right (by rw [hs, Nat.succ_mul]; omega), hs, show (i + 1) * sz + f - sz = i * sz + f from by rw [Nat.succ_mul]; omega]
      exact ih i (by simpa using hi) f hf
theorem flat_set1 {α : Type} {enc : α → List Value} {sz : Nat} (hs : ∀ x, (enc x).length = sz) : ∀ (xs : List α) (k : Nat) (hk : k < xs.length) (f : Nat) (_hf : f < sz) (v : Value) (y : α), enc y = (enc xs[k]).set f v → (xs.flatMap enc).set (k * sz + f) v = (xs.set k y).flatMap enc := by
  intro xs
  induction xs with
  | nil => intro k hk; exact absurd hk (by simp)
  | cons x r ih =>
    intro k hk f hf v y hy
    rw [List.flatMap_cons]
    cases k with
    | zero =>
      rw [List.set_append_left _ _ (by rw [hs]; omega), List.set_cons_zero, List.flatMap_cons, hy]
      simp
    | succ k =>
      rw [List.set_append_right _ _ (by rw [hs, Nat.succ_mul]; omega), hs, show (k + 1) * sz + f - sz = k * sz + f from by rw [Nat.succ_mul]; omega, List.set_cons_succ, List.flatMap_cons, ih k (by simpa using hk) f hf v y (by simpa using hy)]
/-- What app_any asks of a source of structs that can be read. -/
theorem Rd.newsS {α : Type} {enc : α → List Value} {sz : Nat} {w : World} {a : Option Addr} {n cap : Nat} {xs : List α} (hs : ∀ x, (enc x).length = sz) (h0 : 0 < sz) (h : Rd enc sz w a n cap xs) : ∀ ad', a = some ad' → ∀ (j : Nat) (u : Value), (xs.flatMap enc)[j]? = some u → w.cell? (ad'.add j) = some u := by
  intro ad had j u hu
  have hj : j < (xs.flatMap enc).length := (List.getElem?_eq_some_iff.1 hu).1
  rw [flat_len hs] at hj
  have hi : j / sz < xs.length := by rw [Nat.div_lt_iff_lt_mul h0]; exact hj
  have hn : 0 < n := by rw [← h.len]; exact Nat.lt_of_le_of_lt (Nat.zero_le _) hi
  obtain ⟨b, off, ha, _, hc⟩ := h.spot hn
  rw [ha] at had
  cases had
  have e : j / sz * sz + j % sz = j := by rw [Nat.mul_comm]; exact Nat.div_add_mod j sz
  have hg := flat_get hs xs (j / sz) hi (j % sz) (Nat.mod_lt _ h0)
  rw [e, hu] at hg
  have := hc (j / sz) hi (j % sz) u hg.symm
  rw [Addr.add_lit, ← this]
  congr 2
  omega
theorem oneSEdge (xs : List SEdgeR) : ∀ u ∈ xs.flatMap encSEdge, u.oneCell' = true := by
  intro u hu
  obtain ⟨x, _, h⟩ := List.mem_flatMap.1 hu
  simp [encSEdge] at h
  rcases h with rfl | rfl | rfl | rfl | rfl <;> rfl
def wvB (vs : List Int) (e : SEdgeR) : Bool := decide (e.ix < (vs.length : Int)) && numB (vs.getD e.ix.toNat 0)
def wvE (vs : List Int) (e : SEdgeR) : SEdgeR := ⟨e.fr, e.to, e.wt, e.ix, vs.getD e.ix.toNat 0⟩
def withValsF (D : Int × Int × List SEdgeR) (vs : List Int) : (Int × Int × List SEdgeR) × Bool := if shardB D.1 D.2.1 D.2.2 = true ∧ D.2.2.all (wvB vs) = true then ((D.1, D.2.1, D.2.2.map (wvE vs)), true) else ((0, 0, []), false)
theorem withValsF_yes {D : Int × Int × List SEdgeR} {vs : List Int} (h : shardB D.1 D.2.1 D.2.2 = true) (h2 : D.2.2.all (wvB vs) = true) : withValsF D vs = ((D.1, D.2.1, D.2.2.map (wvE vs)), true) := if_pos ⟨h, h2⟩
theorem withValsF_bad {D : Int × Int × List SEdgeR} {vs : List Int} (h : shardB D.1 D.2.1 D.2.2 = false) : withValsF D vs = ((0, 0, []), false) := if_neg (by rw [h]; simp)
theorem withValsF_no {D : Int × Int × List SEdgeR} {vs : List Int} {k : Nat} (hk : k < D.2.2.length) (h : wvB vs (atSEdge D.2.2 k) = false) : withValsF D vs = ((0, 0, []), false) := by
  refine if_neg (fun hh => ?_)
  have := List.all_eq_true.1 hh.2 (atSEdge D.2.2 k) (by rw [atSEdge_eq _ _ hk]; exact List.getElem_mem hk)
  rw [h] at this
  cases this
/-- After k of the values. -/
def wvL (vs : List Int) (xs : List SEdgeR) (k : Nat) : List SEdgeR := (xs.take k).map (wvE vs) ++ xs.drop k
theorem wvL_len (vs : List Int) (xs : List SEdgeR) (k : Nat) : (wvL vs xs k).length = xs.length := by unfold wvL; rw [List.length_append, List.length_map, ← List.length_append, List.take_append_drop]
theorem wvL_zero (vs : List Int) (xs : List SEdgeR) : wvL vs xs 0 = xs := by simp [wvL]
theorem wvL_all (vs : List Int) (xs : List SEdgeR) : wvL vs xs xs.length = xs.map (wvE vs) := by simp [wvL]
theorem wvL_at (vs : List Int) (xs : List SEdgeR) (k : Nat) (h : k < xs.length) : atSEdge (wvL vs xs k) k = atSEdge xs k := by
  rw [atSEdge_eq _ _ (by rw [wvL_len]; exact h), atSEdge_eq _ _ h]
  unfold wvL
  rw [List.getElem_append_right (by rw [List.length_map, List.length_take]; omega)]
  simp only [List.getElem_drop, List.length_map, List.length_take]
  congr 1
  omega
theorem wvL_set (vs : List Int) (xs : List SEdgeR) (k : Nat) (h : k < xs.length) : (wvL vs xs k).set k (wvE vs (atSEdge xs k)) = wvL vs xs (k + 1) := by
  have hl : ((xs.take k).map (wvE vs)).length = k := by rw [List.length_map, List.length_take]; omega
  unfold wvL
  rw [List.set_append_right _ _ (by omega), hl, Nat.sub_self, List.drop_eq_getElem_cons h, List.set_cons_zero, List.take_succ_eq_append_getElem h, List.map_append, List.append_assoc, atSEdge_eq _ _ h]
  rfl
theorem all_step {vs : List Int} {xs : List SEdgeR} {k : Nat} (h : (xs.take k).all (wvB vs) = true) (hk : k < xs.length) (hb : wvB vs (atSEdge xs k) = true) : (xs.take (k + 1)).all (wvB vs) = true := by
  rw [List.take_succ_eq_append_getElem hk, List.all_append, h, ← atSEdge_eq _ _ hk]
  simp [hb]
/-- A call's end: it returned a shard of its own and a bool. -/
def RetShK (r : (Int × Int × List SEdgeR) × Bool) (w : World) (en : Ending) (w' : World) : Prop := ∃ y : ShardR, en = .returned (.tuple #[.agg #[.int .i64 y.lo, .int .i64 y.hi, .slice y.edgesA y.edgesN y.edgesC], .bool r.2]) ∧ datShard y = r.1 ∧ OwnShard w.heap.size w'.heap.size w' y ∧ bulkShard y ≤ 1048576 ∧ Below w.heap.size w w'
theorem OwnS.nilS (lo : Nat) (w : World) : OwnS encSEdge 5 92 lo w.heap.size w none 0 0 [] := ⟨rfl, World.ownsRow_nil _ _ _ _, fun g hg => by simp [Value.ownBlock] at hg, Nat.le_refl _, Nat.zero_le _⟩
theorem RetShK.zero {w w' : World} (hb : Below w.heap.size w w') : RetShK ((0, 0, []), false) w (.returned (.tuple #[.agg #[.int .i64 0, .int .i64 0, .slice none 0 0], .bool false])) w' :=
  ⟨⟨0, 0, none, 0, 0, []⟩, rfl, rfl, ⟨OwnS.nilS _ _, Nat.le_refl _⟩, Nat.zero_le _, hb⟩
set_option maxRecDepth 100000 in
set_option maxHeartbeats 1600000 in
theorem copyShard_any (lo hi : Int) (a : Option Addr) (m cap : Nat) (xs : List SEdgeR) (w : World) (h : Rd encSEdge 5 w a m cap xs) (hn : m ≤ 1048576) :
    Calls Try.prog 94 #[.agg #[.int .i64 lo, .int .i64 hi, .slice a m cap]] w fun e w' => ∃ A C, e = .returned (.agg #[.int .i64 lo, .int .i64 hi, .slice A m C]) ∧ OwnS encSEdge 5 92 w.heap.size w'.heap.size w' A m C xs ∧ Below w.heap.size w w' := by
  obtain ⟨i0, ji, jz0, jz1, jz2⟩ := info_parts infoSEdge
  have hL := Lib.hid h.len
  have hm := h.max
  have hle := h.le
  unfold maxLen at hm
  have hb0 := ((Below.refl w.heap.size w).alloc (Nat.le_refl _) (.cells #[.int .i64 lo, .int .i64 hi, .slice a m cap] 64)).alloc (by simp) (.cells #[.int .i64 0, .int .i64 0, .slice none 0 0] 64)
  have HR := Lib.hid (h.below hb0 (Nat.le_refl _))
  go_enter Try.func94, Try.ntmps94
  go_wp2_with (at_builtin; refine app_any rfl _ _ 62 rfl (w.heap.size + 2) 92 Try.underlying62 ji jz0 jz1 jz2 rfl (by decide) none 0 0 [] rfl (World.ownsRow_nil _ _ _ _) a m cap (xs.flatMap encSEdge) rfl ?c0 ?c1 ?c2 ?c3 ?c4 ?c5 ?c6 ?_)
  case c0 => rw [flat_len lenSEdge, hL.out]
  case c1 => exact HR.out.newsS lenSEdge (by decide)
  case c2 => exact HR.out.none
  case c3 => exact oneSEdge xs
  case c4 => unfold maxLen; omega
  case c5 => omega
  case c6 => simp
  intro A C w1 ho1 hb1
  try simp only [Nat.zero_add, List.nil_append] at ho1
  obtain ⟨hc, hf⟩ := bcell hb1
  have hz : w.heap.size + 1 < w1.heap.size := by have := hb1.size; simp at this; omega
  have x0 : w1.cell? ⟨w.heap.size, 0, none⟩ = some (.int .i64 lo) := by rw [hc _ _ (by omega)]; simp [go_sem]
  have x1 : w1.cell? ⟨w.heap.size, 1, none⟩ = some (.int .i64 hi) := by rw [hc _ _ (by omega)]; simp [go_sem]
  have x2 : w1.cell? ⟨w.heap.size, 2, none⟩ = some (.slice a m cap) := by rw [hc _ _ (by omega)]; simp [go_sem]
  have x5 : w1.frozen? ⟨w.heap.size, 2, none⟩ = false := by rw [hf _ _ (by omega)]; simp [go_sem]
  have r0 : w1.cell? ⟨w.heap.size + 1, 0, none⟩ = some (.int .i64 0) := by rw [hc _ _ (by omega)]; simp [go_sem]
  have r1 : w1.cell? ⟨w.heap.size + 1, 1, none⟩ = some (.int .i64 0) := by rw [hc _ _ (by omega)]; simp [go_sem]
  have r2 : w1.cell? ⟨w.heap.size + 1, 2, none⟩ = some (.slice none 0 0) := by rw [hc _ _ (by omega)]; simp [go_sem]
  have r3 : w1.frozen? ⟨w.heap.size + 1, 0, none⟩ = false := by rw [hf _ _ (by omega)]; simp [go_sem]
  have r4 : w1.frozen? ⟨w.heap.size + 1, 1, none⟩ = false := by rw [hf _ _ (by omega)]; simp [go_sem]
  have r5 : w1.frozen? ⟨w.heap.size + 1, 2, none⟩ = false := by rw [hf _ _ (by omega)]; simp [go_sem]
  clear hc hf
  go_wp2
  refine bodyPost_ret (v := .agg #[.int .i64 lo, .int .i64 hi, .slice A m C]) (by simp [results, Try.results94, go_sem, r0, r1, r2]) rfl ?_
  have hw := (((Win.set (lo := w.heap.size) (hi := w.heap.size + 2) w1 w.heap.size 2 (.slice A m C) (by omega) (by omega)).trans (Win.set _ (w.heap.size + 1) 0 (.int .i64 lo) (by omega) (by omega))).trans (Win.set _ (w.heap.size + 1) 1 (.int .i64 hi) (by omega) (by omega))).trans (Win.set _ (w.heap.size + 1) 2 (.slice A m C) (by omega) (by omega))
  have hos := own_win ho1 hw (fun g hg => Or.inr (World.ownsRow.lt ho1 g hg).1)
  exact ⟨A, C, rfl, (OwnS.of hos hL.out (by omega)).lo_le (by omega), (hb0.trans (hb1.mono (by omega))).trans (hw.below (Nat.le_refl _) (by have := hb1.size; simp at this; omega))⟩
set_option maxRecDepth 100000 in
set_option maxHeartbeats 1600000 in
theorem l08Copy_any (lo hi : Int) (a : Option Addr) (m cap : Nat) (xs : List SEdgeR) (w : World) (h : Rd encSEdge 5 w a m cap xs) (hn : m ≤ 1048576) :
    Calls Try.prog 92 #[.agg #[.int .i64 lo, .int .i64 hi, .slice a m cap]] w fun e w' => ∃ A C, e = .returned (.agg #[.int .i64 lo, .int .i64 hi, .slice A m C]) ∧ OwnS encSEdge 5 92 w.heap.size w'.heap.size w' A m C xs ∧ Below w.heap.size w w' := by
  obtain ⟨i0, ji, jz0, jz1, jz2⟩ := info_parts infoSEdge
  have hL := Lib.hid h.len
  have hm := h.max
  have hle := h.le
  unfold maxLen at hm
  have hb0 := (((Below.refl w.heap.size w).alloc (Nat.le_refl _) (.cells #[.int .i64 lo, .int .i64 hi, .slice a m cap] 64)).alloc (by simp) (.cells #[.int .i64 0, .int .i64 0, .slice none 0 0] 64)).alloc (by simp; omega) (.cells #[] 92)
  have HR := Lib.hid (h.below hb0 (Nat.le_refl _))
  go_enter Try.func92, Try.ntmps92
  go_wp2_with (at_builtin; refine app_any rfl _ _ 62 rfl (w.heap.size + 2) 92 Try.underlying62 ji jz0 jz1 jz2 rfl (by decide) (some ⟨w.heap.size + 2, 0, none⟩) 0 0 [] rfl (by have e := World.ownsRow_lit (base := w.heap.size + 2) (e := 92) (size := 5) ((w.alloc (.cells #[.int .i64 lo, .int .i64 hi, .slice a m cap] 64)).alloc (.cells #[.int .i64 0, .int .i64 0, .slice none 0 0] 64)) #[] 0 (by simp) (by unfold maxLen; omega) rfl; simpa using e) a m cap (xs.flatMap encSEdge) rfl ?c0 ?c1 ?c2 ?c3 ?c4 ?c5 ?c6 ?_)
  case c0 => rw [flat_len lenSEdge, hL.out]
  case c1 => exact HR.out.newsS lenSEdge (by decide)
  case c2 => exact HR.out.none
  case c3 => exact oneSEdge xs
  case c4 => unfold maxLen; omega
  case c5 => omega
  case c6 => simp
  intro A C w1 ho1 hb1
  try simp only [Nat.zero_add, List.nil_append] at ho1
  obtain ⟨hc, hf⟩ := bcell hb1
  have hz : w.heap.size + 1 < w1.heap.size := by have := hb1.size; simp at this; omega
  have x0 : w1.cell? ⟨w.heap.size, 0, none⟩ = some (.int .i64 lo) := by rw [hc _ _ (by omega)]; simp [go_sem]
  have x1 : w1.cell? ⟨w.heap.size, 1, none⟩ = some (.int .i64 hi) := by rw [hc _ _ (by omega)]; simp [go_sem]
  have x2 : w1.cell? ⟨w.heap.size, 2, none⟩ = some (.slice a m cap) := by rw [hc _ _ (by omega)]; simp [go_sem]
  have x5 : w1.frozen? ⟨w.heap.size, 2, none⟩ = false := by rw [hf _ _ (by omega)]; simp [go_sem]
  have r0 : w1.cell? ⟨w.heap.size + 1, 0, none⟩ = some (.int .i64 0) := by rw [hc _ _ (by omega)]; simp [go_sem]
  have r1 : w1.cell? ⟨w.heap.size + 1, 1, none⟩ = some (.int .i64 0) := by rw [hc _ _ (by omega)]; simp [go_sem]
  have r2 : w1.cell? ⟨w.heap.size + 1, 2, none⟩ = some (.slice none 0 0) := by rw [hc _ _ (by omega)]; simp [go_sem]
  have r3 : w1.frozen? ⟨w.heap.size + 1, 0, none⟩ = false := by rw [hf _ _ (by omega)]; simp [go_sem]
  have r4 : w1.frozen? ⟨w.heap.size + 1, 1, none⟩ = false := by rw [hf _ _ (by omega)]; simp [go_sem]
  have r5 : w1.frozen? ⟨w.heap.size + 1, 2, none⟩ = false := by rw [hf _ _ (by omega)]; simp [go_sem]
  clear hc hf
  go_wp2
  refine bodyPost_ret (v := .agg #[.int .i64 lo, .int .i64 hi, .slice A m C]) (by simp [results, Try.results92, go_sem, r0, r1, r2]) rfl ?_
  have hw := (((Win.set (lo := w.heap.size) (hi := w.heap.size + 2) w1 w.heap.size 2 (.slice A m C) (by omega) (by omega)).trans (Win.set _ (w.heap.size + 1) 0 (.int .i64 lo) (by omega) (by omega))).trans (Win.set _ (w.heap.size + 1) 1 (.int .i64 hi) (by omega) (by omega))).trans (Win.set _ (w.heap.size + 1) 2 (.slice A m C) (by omega) (by omega))
  have hos := own_win ho1 hw (fun g hg => Or.inr (World.ownsRow.lt ho1 g hg).1)
  exact ⟨A, C, rfl, (OwnS.of hos hL.out (by omega)).lo_le (by omega), (hb0.trans (hb1.mono (by omega))).trans (hw.below (Nat.le_refl _) (by have := hb1.size; simp at this; omega))⟩
/-- Block b holds the shard, and is not frozen. -/
structure Box3 (w : World) (b : Nat) (lo hi : Int) (a : Option Addr) (n c : Nat) : Prop where
  c0 : w.cell? ⟨b, 0, none⟩ = some (.int .i64 lo)
  c1 : w.cell? ⟨b, 1, none⟩ = some (.int .i64 hi)
  c2 : w.cell? ⟨b, 2, none⟩ = some (.slice a n c)
  f0 : w.frozen? ⟨b, 0, none⟩ = false
  f1 : w.frozen? ⟨b, 1, none⟩ = false
  f2 : w.frozen? ⟨b, 2, none⟩ = false
theorem Box3.lt {w : World} {b : Nat} {lo hi : Int} {a : Option Addr} {n c : Nat} (h : Box3 w b lo hi a n c) : b < w.heap.size := World.block_lt_of_cell? _ _ h.c0
theorem Box3.keep {w w' : World} {b : Nat} {lo hi : Int} {a : Option Addr} {n c : Nat} (h : Box3 w b lo hi a n c) (hb : w'.heap[b]? = w.heap[b]?) : Box3 w' b lo hi a n c := by
  have c' : ∀ o, w'.cell? ⟨b, o, none⟩ = w.cell? ⟨b, o, none⟩ := fun o => World.cell?_of_block (w := w) (a := ⟨b, o, none⟩) hb
  have f : ∀ o, w'.frozen? ⟨b, o, none⟩ = w.frozen? ⟨b, o, none⟩ := fun o => by unfold World.frozen?; rw [hb]
  exact ⟨(c' 0).trans h.c0, (c' 1).trans h.c1, (c' 2).trans h.c2, (f 0).trans h.f0, (f 1).trans h.f1, (f 2).trans h.f2⟩
theorem Box3.below {w w' : World} {b : Nat} {lo hi : Int} {a : Option Addr} {n c : Nat} (h : Box3 w b lo hi a n c) (hb : Below w.heap.size w w') : Box3 w' b lo hi a n c := h.keep (hb.block b h.lt)
theorem Box3.new (w : World) (lo hi : Int) (a : Option Addr) (n c : Nat) (t : TypeId) : Box3 (w.alloc (.cells #[.int .i64 lo, .int .i64 hi, .slice a n c] t)) w.heap.size lo hi a n c := by
  refine ⟨?_, ?_, ?_, ?_, ?_, ?_⟩ <;> simp [go_sem]
/-- What holds at each round's head: the copy owns what was given values so far. -/
structure WvInv (lo hi : Int) (xs : List SEdgeR) (vs : List Int) (w : World) (O k : Nat) (A : Option Addr) (m C : Nat) (wr : World) : Prop where
  own : OwnS encSEdge 5 92 (w.heap.size + 2) O wr A m C (wvL vs xs k)
  out : Box3 wr O lo hi A m C
  res : Box3 wr (w.heap.size + 1) 0 0 none 0 0
  all : (xs.take k).all (wvB vs) = true
  bel : Below w.heap.size w wr
theorem WvInv.later {lo hi : Int} {xs : List SEdgeR} {vs : List Int} {w : World} {O k : Nat} {A : Option Addr} {m C : Nat} {wr w' : World} (h : WvInv lo hi xs vs w O k A m C wr) (hb : Below wr.heap.size wr w') : WvInv lo hi xs vs w O k A m C w' :=
  ⟨h.own.below hb, h.out.below hb, h.res.below hb, h.all, h.bel.trans (hb.mono h.bel.size)⟩
theorem WvInv.put {lo hi : Int} {xs : List SEdgeR} {vs : List Int} {w : World} {O k g : Nat} {m C : Nat} {wr : World} (h : WvInv lo hi xs vs w O k (some ⟨g, 0, none⟩) m C wr) (hk : k < xs.length) (hb : wvB vs (atSEdge xs k) = true) (X : Int) (hX : X = vs.getD (atSEdge xs k).ix.toNat 0) :
    WvInv lo hi xs vs w O (k + 1) (some ⟨g, 0, none⟩) m C (wr.setCell ⟨g, k * 5 + 4, none⟩ (.int .i64 X)) := by
  have hg := h.own.lt g rfl
  have hg2 := (World.ownsRow.lt h.own.own g rfl).1
  have hw := Win.set (lo := g) (hi := g + 1) wr g (k * 5 + 4) (.int .i64 X) (Nat.le_refl _) (Nat.lt_succ_self _)
  have hk' : k < (wvL vs xs k).length := by rw [wvL_len]; exact hk
  have hat : (wvL vs xs k)[k] = atSEdge xs k := by rw [← atSEdge_eq _ _ hk', wvL_at _ _ _ hk]
  have hs := flat_set1 lenSEdge (wvL vs xs k) k hk' 4 (by decide) (.int .i64 X) (wvE vs (atSEdge xs k)) (by rw [hat, hX]; rfl)
  rw [wvL_set _ _ _ hk] at hs
  refine ⟨⟨by rw [wvL_len, ← wvL_len vs xs k]; exact h.own.len, ?_, h.own.lt, Nat.le_trans h.own.top hw.size, h.own.small⟩, h.out.keep (hw.block O h.out.lt (by omega)), h.res.keep (hw.block _ h.res.lt (by omega)), all_step h.all hk hb, h.bel.trans (hw.below (by omega) h.bel.size)⟩
  have := (h.own.own.stored (k * 5 + 4) (.int .i64 X)).1
  rw [hs] at this
  exact this
theorem put3_win (w : World) (b : Nat) (u0 u1 u2 : Value) : Win b (b + 1) w (((w.setCell ⟨b, 0, none⟩ u0).setCell ⟨b, 1, none⟩ u1).setCell ⟨b, 2, none⟩ u2) := setCells_win b [u0, u1, u2] 0 w
theorem WvInv.fin {lo hi : Int} {xs : List SEdgeR} {vs : List Int} {w : World} {O : Nat} {A : Option Addr} {m C : Nat} {wr : World} (h : WvInv lo hi xs vs w O m A m C wr) (hm : xs.length = m) (hn : m ≤ 1048576) (hok : shardB lo hi xs = true) :
    RetShK (withValsF (lo, hi, xs) vs) w (.returned (.tuple #[.agg #[.int .i64 lo, .int .i64 hi, .slice A m C], .bool true])) (((wr.setCell ⟨w.heap.size + 1, 0, none⟩ (.int .i64 lo)).setCell ⟨w.heap.size + 1, 1, none⟩ (.int .i64 hi)).setCell ⟨w.heap.size + 1, 2, none⟩ (.slice A m C)) := by
  have hall := h.all
  rw [List.take_of_length_le (by omega)] at hall
  have ho := h.own
  rw [← hm, wvL_all] at ho
  rw [hm] at ho
  have hw := put3_win wr (w.heap.size + 1) (.int .i64 lo) (.int .i64 hi) (.slice A m C)
  rw [withValsF_yes (D := (lo, hi, xs)) hok hall]
  exact ⟨⟨lo, hi, A, m, C, xs.map (wvE vs)⟩, rfl, rfl, ⟨((ho.win hw (Or.inl (Nat.le_refl _))).lo_le (by omega)).grow (Nat.le_trans (Nat.le_of_lt h.out.lt) hw.size) (Nat.le_refl _), Nat.le_refl _⟩, hn, h.bel.trans (hw.below (by omega) h.bel.size)⟩
theorem wvB_lt {vs : List Int} {e : SEdgeR} {ix : Nat} (he : e.ix = (ix : Int)) (h : ix < vs.length) : wvB vs e = numB (vs.getD ix 0) := by
  unfold wvB
  rw [he, decide_eq_true (by omega), Int.toNat_natCast]; rfl
theorem wvB_ge {vs : List Int} {e : SEdgeR} {ix : Nat} (he : e.ix = (ix : Int)) (h : ¬ ix < vs.length) : wvB vs e = false := by
  unfold wvB
  rw [he, decide_eq_false (by omega)]; rfl
set_option maxRecDepth 100000 in
set_option maxHeartbeats 3200000 in
theorem withVals_impl_k (y : ShardR) (D : Int × Int × List SEdgeR) (hD : datShard y = D) (v : Row Int) (V : List Int) (hV : datIntS v = V) (w : World) (g : goodShard w y) (g1 : rdIntS w v) (hn : bulkShard y ≤ 1048576) :
    Calls Try.prog 59 #[.agg #[.int .i64 y.lo, .int .i64 y.hi, .slice y.edgesA y.edgesN y.edgesC], .slice v.a v.n v.c] w fun e w' => RetShK (withValsF D V) w e w' := by
  subst hD
  subst hV
  have hb0 := ((Below.refl w.heap.size w).alloc (Nat.le_refl _) (.cells #[.int .i64 y.lo, .int .i64 y.hi, .slice y.edgesA y.edgesN y.edgesC] 64)).alloc (by simp) (.cells #[.int .i64 0, .int .i64 0, .slice none 0 0] 64)
  have h := g.2.2.1
  clear g
  obtain ⟨lo, hi, a, m, cap, xs⟩ := y
  obtain ⟨va, vn, vc, V⟩ := v
  unfold rdIntS at g1
  have hm' : m ≤ 1048576 := hn
  simp only at h hb0 g1 ⊢
  show Calls _ _ _ _ fun e w' => RetShK (withValsF (lo, hi, xs) V) w e w'
  have hL := Lib.hid h.len
  have hVL := Lib.hid g1.len
  have hvm := g1.max
  have hvle := g1.le
  have hmm := h.max
  have hle := h.le
  unfold maxLen at hmm hvm
  clear hn
  cases hok : shardB lo hi xs with
  | true =>
    have HOK := Lib.hid hok
    clear hok
    go_enter Try.func59, Try.ntmps59
    go_wp2_with fail
    refine (shardOk_impl lo hi a m cap xs _ (h.below hb0 (Nat.le_refl _))).mono ?_
    rintro e w1 ⟨rfl, hb1⟩
    rw [HOK.out]
    have BB1 := hb0.trans (hb1.mono hb0.size)
    have HX := Lib.hid (((Box3.new w lo hi a m cap 64).below ((Below.refl _ _).alloc (Nat.le_refl _) (.cells #[.int .i64 0, .int .i64 0, .slice none 0 0] 64))).below hb1)
    have HR0 : Hid (Box3 w1 (w.heap.size + 1) 0 0 none 0 0) := Lib.hid (by
      have e := (Box3.new (w.alloc (.cells #[.int .i64 lo, .int .i64 hi, .slice a m cap] 64)) 0 0 none 0 0 64).below hb1
      rw [World.size_alloc] at e
      exact e)
    obtain ⟨x0, x1, x2, _, _, _⟩ := HX.out
    go_wp2_with fail
    refine (copyShard_any lo hi a m cap xs _ (h.below BB1 (Nat.le_refl _)) hm').mono ?_
    rintro e w2 ⟨A, C, rfl, ho2, hb2⟩
    have BB2 := BB1.trans (hb2.mono BB1.size)
    have hz2 := (HR0.out.below hb2).lt
    have hsz1 := HR0.out.lt
    have hz0 : w.heap.size < w2.heap.size := by omega
    have HI0 : Hid (WvInv lo hi xs V w w2.heap.size 0 A m C (w2.alloc (.cells #[.int .i64 lo, .int .i64 hi, .slice A m C] 64))) := by
      have hba := (Below.refl w2.heap.size w2).alloc (Nat.le_refl _) (.cells #[.int .i64 lo, .int .i64 hi, .slice A m C] 64)
      refine Lib.hid ⟨?_, Box3.new _ _ _ _ _ _ _, (HR0.out.below hb2).below hba, by simp, BB2.alloc BB2.size _⟩
      rw [wvL_zero]
      exact (ho2.below hba).lo_le (by omega)
    obtain ⟨u0, u1, u2, _, _, _⟩ := HX.out.below hb2
    clear ho2 hb1 hb2 x0 x1 x2
    go_wp2
    go_loopw [18] (fun i wr => ∃ k : Nat, k ≤ m ∧ i = .int .i64 k ∧ Hid (WvInv lo hi xs V w w2.heap.size k A m C wr)) (fun i _ => m - (intOf i).toNat)
    case atStart => exact ⟨0, Nat.zero_le _, rfl, HI0⟩
    case round =>
      obtain ⟨k, hk, rfl, HI⟩ := hrel
      obtain ⟨o0, o1, o2, _, _, _⟩ := HI.out.out
      obtain ⟨r0, r1, r2, rf0, rf1, rf2⟩ := HI.out.res
      have hzr := HI.out.res.lt
      have hzO := HI.out.out.lt
      by_cases hlt : k < m
      · have hkx : k < xs.length := by rw [hL.out]; exact hlt
        obtain ⟨_, _, _, _, _, _, _, _, _, _, _, ix0, ix1⟩ := shFacts HOK.out hkx
        obtain ⟨ix, hix⟩ := Int.eq_ofNat_of_zero_le ix0
        obtain ⟨gb, hga⟩ := own_some HI.out.own.own (by omega)
        subst hga
        have BBr := HI.out.bel
        have RV := g1.below BBr (Nat.le_refl _)
        obtain ⟨b', off', hb', _, hce⟩ := (HI.out.own.rd lenSEdge).rowSEdge (by omega)
        simp only [Option.some.injEq, Addr.mk.injEq, and_true] at hb'
        obtain ⟨rfl, rfl⟩ := hb'
        obtain ⟨_, _, _, x3, x4⟩ := hce k hlt
        rw [wvL_at _ _ _ hkx] at x3 x4
        simp only [Nat.zero_add] at x3 x4
        have xf := HI.out.own.own.frozenAt (k * 5 + 4)
        clear hce
        have HLT := Lib.hid (fun (hh : ix < vn) => wvB_lt (vs := V) hix (by rw [hVL.out]; exact hh))
        have HGE := Lib.hid (fun (hh : ¬ ix < vn) => wvB_ge (vs := V) hix (by rw [hVL.out]; exact hh))
        have HIX := Lib.hid hix
        rw [hix] at x3 ix1
        clear hix ix0
        by_cases c1 : ix < vn
        · have c1i : (ix : Int) < (vn : Int) := by omega
          obtain ⟨bv, ov, rfl, hbv, hcv⟩ := RV.ints (by omega)
          have cv := hcv ix c1
          have HWB := Lib.hid (HLT.out c1)
          obtain ⟨X, hX⟩ : ∃ X, X = V.getD ix 0 := ⟨_, rfl⟩
          rw [← hX] at cv HWB
          have HX := Lib.hid hX
          clear hX hcv c1 RV
          cases hnb : numB X with
          | true =>
            have HNB := Lib.hid hnb
            have HNXT := Lib.hid (HI.out.put hkx (by rw [HWB.out, HNB.out]) X (by rw [HX.out, HIX.out, Int.toNat_natCast]))
            clear hnb hkx
            go_wp2_with fail
            refine (isNumber_any _ _).mono ?_
            rintro e w' ⟨rfl, rfl⟩
            rw [HNB.out]
            go_wp2
            go_roundw
            case rel => exact ⟨k + 1, by omega, by go_num, HNXT⟩
            case measure => simp [intOf]; omega
          | false =>
            have HNB := Lib.hid hnb
            have HF := Lib.hid (withValsF_no (D := (lo, hi, xs)) (vs := V) hkx (by rw [HWB.out, HNB.out]))
            clear hnb hkx
            go_wp2_with fail
            refine (isNumber_any _ _).mono ?_
            rintro e w' ⟨rfl, rfl⟩
            rw [HNB.out]
            go_wp2
            refine bodyPost_ret (v := .tuple #[.agg #[.int .i64 0, .int .i64 0, .slice none 0 0], .bool false]) (by simp [results, Try.results59, go_sem, r0, r1, r2]) rfl ?_
            rw [HF.out]
            exact RetShK.zero (BBr.trans ((put3_win _ (w.heap.size + 1) _ _ _).below (by omega) BBr.size))
        · have HF := Lib.hid (withValsF_no (D := (lo, hi, xs)) (vs := V) hkx (HGE.out c1))
          have c1i : (vn : Int) ≤ (ix : Int) := by omega
          clear c1 hkx RV
          go_wp2
          refine bodyPost_ret (v := .tuple #[.agg #[.int .i64 0, .int .i64 0, .slice none 0 0], .bool false]) (by simp [results, Try.results59, go_sem, r0, r1, r2]) rfl ?_
          rw [HF.out]
          exact RetShK.zero (BBr.trans ((put3_win _ (w.heap.size + 1) _ _ _).below (by omega) BBr.size))
      · obtain rfl : k = m := by omega
        go_wp2
        refine bodyPost_ret (v := .tuple #[.agg #[.int .i64 lo, .int .i64 hi, .slice A k C], .bool true]) (by simp [results, Try.results59, go_sem, r0, r1, r2]) rfl ?_
        exact HI.out.fin hL.out hm' HOK.out
  | false =>
    have HF := Lib.hid (withValsF_bad (D := (lo, hi, xs)) (vs := V) hok)
    have HOK := Lib.hid hok
    clear hok
    go_enter Try.func59, Try.ntmps59
    go_wp2_with fail
    refine (shardOk_impl lo hi a m cap xs _ (h.below hb0 (Nat.le_refl _))).mono ?_
    rintro e w1 ⟨rfl, hb1⟩
    rw [HOK.out]
    have BB1 := hb0.trans (hb1.mono hb0.size)
    have HR0 : Hid (Box3 w1 (w.heap.size + 1) 0 0 none 0 0) := Lib.hid (by
      have e := (Box3.new (w.alloc (.cells #[.int .i64 lo, .int .i64 hi, .slice a m cap] 64)) 0 0 none 0 0 64).below hb1
      rw [World.size_alloc] at e
      exact e)
    obtain ⟨r0, r1, r2, rf0, rf1, rf2⟩ := HR0.out
    have hzr := HR0.out.lt
    go_wp2
    refine bodyPost_ret (v := .tuple #[.agg #[.int .i64 0, .int .i64 0, .slice none 0 0], .bool false]) (by simp [results, Try.results59, go_sem, r0, r1, r2]) rfl ?_
    rw [HF.out]
    exact RetShK.zero (BB1.trans ((put3_win w1 (w.heap.size + 1) _ _ _).below (by omega) BB1.size))
set_option maxRecDepth 100000 in
set_option maxHeartbeats 3200000 in
theorem withVals_spec_k (y : ShardR) (D : Int × Int × List SEdgeR) (hD : datShard y = D) (v : Row Int) (V : List Int) (hV : datIntS v = V) (w : World) (g : goodShard w y) (g1 : rdIntS w v) (hn : bulkShard y ≤ 1048576) :
    Calls Try.prog 58 #[.agg #[.int .i64 y.lo, .int .i64 y.hi, .slice y.edgesA y.edgesN y.edgesC], .slice v.a v.n v.c] w fun e w' => RetShK (withValsF D V) w e w' := by
  subst hD
  subst hV
  have hb0 := ((Below.refl w.heap.size w).alloc (Nat.le_refl _) (.cells #[.int .i64 y.lo, .int .i64 y.hi, .slice y.edgesA y.edgesN y.edgesC] 64)).alloc (by simp) (.cells #[.int .i64 0, .int .i64 0, .slice none 0 0] 64)
  have h := g.2.2.1
  clear g
  obtain ⟨lo, hi, a, m, cap, xs⟩ := y
  obtain ⟨va, vn, vc, V⟩ := v
  unfold rdIntS at g1
  have hm' : m ≤ 1048576 := hn
  simp only at h hb0 g1 ⊢
  show Calls _ _ _ _ fun e w' => RetShK (withValsF (lo, hi, xs) V) w e w'
  have hL := Lib.hid h.len
  have hVL := Lib.hid g1.len
  have hvm := g1.max
  have hvle := g1.le
  have hmm := h.max
  have hle := h.le
  unfold maxLen at hmm hvm
  clear hn
  cases hok : shardB lo hi xs with
  | true =>
    have HOK := Lib.hid hok
    clear hok
    go_enter Try.func58, Try.ntmps58
    go_wp2_with fail
    refine (shardOk_spec lo hi a m cap xs _ (h.below hb0 (Nat.le_refl _))).mono ?_
    rintro e w1 ⟨rfl, hb1⟩
    rw [HOK.out]
    have BB1 := hb0.trans (hb1.mono hb0.size)
    have HX := Lib.hid (((Box3.new w lo hi a m cap 64).below ((Below.refl _ _).alloc (Nat.le_refl _) (.cells #[.int .i64 0, .int .i64 0, .slice none 0 0] 64))).below hb1)
    have HR0 : Hid (Box3 w1 (w.heap.size + 1) 0 0 none 0 0) := Lib.hid (by
      have e := (Box3.new (w.alloc (.cells #[.int .i64 lo, .int .i64 hi, .slice a m cap] 64)) 0 0 none 0 0 64).below hb1
      rw [World.size_alloc] at e
      exact e)
    obtain ⟨x0, x1, x2, _, _, _⟩ := HX.out
    go_wp2_with fail
    refine (l08Copy_any lo hi a m cap xs _ (h.below BB1 (Nat.le_refl _)) hm').mono ?_
    rintro e w2 ⟨A, C, rfl, ho2, hb2⟩
    have BB2 := BB1.trans (hb2.mono BB1.size)
    have hz2 := (HR0.out.below hb2).lt
    have hsz1 := HR0.out.lt
    have hz0 : w.heap.size < w2.heap.size := by omega
    have HI0 : Hid (WvInv lo hi xs V w w2.heap.size 0 A m C (w2.alloc (.cells #[.int .i64 lo, .int .i64 hi, .slice A m C] 64))) := by
      have hba := (Below.refl w2.heap.size w2).alloc (Nat.le_refl _) (.cells #[.int .i64 lo, .int .i64 hi, .slice A m C] 64)
      refine Lib.hid ⟨?_, Box3.new _ _ _ _ _ _ _, (HR0.out.below hb2).below hba, by simp, BB2.alloc BB2.size _⟩
      rw [wvL_zero]
      exact (ho2.below hba).lo_le (by omega)
    obtain ⟨u0, u1, u2, _, _, _⟩ := HX.out.below hb2
    clear ho2 hb1 hb2 x0 x1 x2
    go_wp2
    go_loopw [18] (fun i wr => ∃ k : Nat, k ≤ m ∧ i = .int .i64 k ∧ Hid (WvInv lo hi xs V w w2.heap.size k A m C wr)) (fun i _ => m - (intOf i).toNat)
    case atStart => exact ⟨0, Nat.zero_le _, rfl, HI0⟩
    case round =>
      obtain ⟨k, hk, rfl, HI⟩ := hrel
      obtain ⟨o0, o1, o2, _, _, _⟩ := HI.out.out
      obtain ⟨r0, r1, r2, rf0, rf1, rf2⟩ := HI.out.res
      have hzr := HI.out.res.lt
      have hzO := HI.out.out.lt
      by_cases hlt : k < m
      · have hkx : k < xs.length := by rw [hL.out]; exact hlt
        obtain ⟨_, _, _, _, _, _, _, _, _, _, _, ix0, ix1⟩ := shFacts HOK.out hkx
        obtain ⟨ix, hix⟩ := Int.eq_ofNat_of_zero_le ix0
        obtain ⟨gb, hga⟩ := own_some HI.out.own.own (by omega)
        subst hga
        have BBr := HI.out.bel
        have RV := g1.below BBr (Nat.le_refl _)
        obtain ⟨b1, off1, rfl, hbl1, hc1⟩ := h.rowSEdge (by omega)
        obtain ⟨y0, y1, y2, x3, y4⟩ := hc1 k hlt
        have cb : ∀ o, wr.cell? ⟨b1, o, none⟩ = w.cell? ⟨b1, o, none⟩ := fun o => BBr.cell (p := ⟨b1, o, none⟩) hbl1
        rw [← cb] at y0 y1 y2 x3 y4
        obtain ⟨b', off', hb', _, hce⟩ := (HI.out.own.rd lenSEdge).rowSEdge (by omega)
        simp only [Option.some.injEq, Addr.mk.injEq, and_true] at hb'
        obtain ⟨rfl, rfl⟩ := hb'
        obtain ⟨_, _, _, _, x4⟩ := hce k hlt
        simp only [Nat.zero_add] at x4
        have xf := HI.out.own.own.frozenAt (k * 5 + 4)
        clear hce hc1 cb
        have HLT := Lib.hid (fun (hh : ix < vn) => wvB_lt (vs := V) hix (by rw [hVL.out]; exact hh))
        have HGE := Lib.hid (fun (hh : ¬ ix < vn) => wvB_ge (vs := V) hix (by rw [hVL.out]; exact hh))
        have HIX := Lib.hid hix
        rw [hix] at x3 ix1
        clear hix ix0
        by_cases c1 : ix < vn
        · have c1i : (ix : Int) < (vn : Int) := by omega
          obtain ⟨bv, ov, rfl, hbv, hcv⟩ := RV.ints (by omega)
          have cv := hcv ix c1
          have HWB := Lib.hid (HLT.out c1)
          obtain ⟨X, hX⟩ : ∃ X, X = V.getD ix 0 := ⟨_, rfl⟩
          rw [← hX] at cv HWB
          have HX := Lib.hid hX
          clear hX hcv c1 RV
          cases hnb : numB X with
          | true =>
            have HNB := Lib.hid hnb
            have HNXT := Lib.hid (HI.out.put hkx (by rw [HWB.out, HNB.out]) X (by rw [HX.out, HIX.out, Int.toNat_natCast]))
            clear hnb hkx
            go_wp2_with fail
            refine (l01Num_any _ _).mono ?_
            rintro e w' ⟨rfl, rfl⟩
            rw [HNB.out]
            have HNX2 := Lib.hid (HI.out.later ((Below.refl wr.heap.size wr).alloc (Nat.le_refl _) (.cells #[.int .i64 (atSEdge xs k).fr, .int .i64 (atSEdge xs k).to, .int .i64 (atSEdge xs k).wt, .int .i64 ix, .int .i64 (atSEdge xs k).val] 92)).drew)
            have hbA := (Below.refl wr.heap.size wr).alloc (Nat.le_refl _) (.cells #[.int .i64 (atSEdge xs k).fr, .int .i64 (atSEdge xs k).to, .int .i64 (atSEdge xs k).wt, .int .i64 ix, .int .i64 (atSEdge xs k).val] 92)
            have hkx9 : k < xs.length := by rw [hL.out]; exact hlt
            have HNX3 := Lib.hid (HNX2.out.put hkx9 (by rw [HWB.out, HNB.out]) X (by rw [HX.out, HIX.out, Int.toNat_natCast]))
            clear hkx9
            have p0 := cell_later hbA o2
            have p1 := cell_later hbA cv
            have p2 : (wr.alloc (.cells #[.int .i64 (atSEdge xs k).fr, .int .i64 (atSEdge xs k).to, .int .i64 (atSEdge xs k).wt, .int .i64 ix, .int .i64 (atSEdge xs k).val] 92)).cell? ⟨wr.heap.size, 3, none⟩ = some (.int .i64 ix) := by simp [go_sem]
            have p3 := cell_later hbA x4
            have p4 := (hbA.frozen (p := ⟨gb, k * 5 + 4, none⟩) (World.block_lt_of_cell? _ _ x4)).trans xf
            go_wp2_with fail
            generalize wr.alloc (.cells #[.int .i64 (atSEdge xs k).fr, .int .i64 (atSEdge xs k).to, .int .i64 (atSEdge xs k).wt, .int .i64 ix, .int .i64 (atSEdge xs k).val] 92) = W at *
            go_still_tail 10, (by kernel_rfl)
            change wpList _ _ _ _ _ W.drew
            go_wp2
            go_roundw
            case rel => exact ⟨k + 1, by omega, by go_num, HNX3⟩
            case measure => simp [intOf]; omega
          | false =>
            have HNB := Lib.hid hnb
            have HF := Lib.hid (withValsF_no (D := (lo, hi, xs)) (vs := V) hkx (by rw [HWB.out, HNB.out]))
            clear hnb hkx
            go_wp2_with fail
            refine (l01Num_any _ _).mono ?_
            rintro e w' ⟨rfl, rfl⟩
            rw [HNB.out]
            go_wp2
            refine bodyPost_ret (v := .tuple #[.agg #[.int .i64 0, .int .i64 0, .slice none 0 0], .bool false]) (by simp [results, Try.results58, go_sem, hzr, r0, r1, r2]) rfl ?_
            rw [HF.out]
            exact RetShK.zero ((BBr.trans ((put3_win wr (w.heap.size + 1) _ _ _).below (by omega) BBr.size)).alloc (by simp only [size_set]; exact BBr.size) _)
        · have HF := Lib.hid (withValsF_no (D := (lo, hi, xs)) (vs := V) hkx (HGE.out c1))
          have c1i : (vn : Int) ≤ (ix : Int) := by omega
          clear c1 hkx RV
          go_wp2
          refine bodyPost_ret (v := .tuple #[.agg #[.int .i64 0, .int .i64 0, .slice none 0 0], .bool false]) (by simp [results, Try.results58, go_sem, hzr, r0, r1, r2]) rfl ?_
          rw [HF.out]
          exact RetShK.zero ((BBr.trans ((put3_win wr (w.heap.size + 1) _ _ _).below (by omega) BBr.size)).alloc (by simp only [size_set]; exact BBr.size) _)
      · obtain rfl : k = m := by omega
        go_wp2
        refine bodyPost_ret (v := .tuple #[.agg #[.int .i64 lo, .int .i64 hi, .slice A k C], .bool true]) (by simp [results, Try.results58, go_sem, r0, r1, r2]) rfl ?_
        exact HI.out.fin hL.out hm' HOK.out
  | false =>
    have HF := Lib.hid (withValsF_bad (D := (lo, hi, xs)) (vs := V) hok)
    have HOK := Lib.hid hok
    clear hok
    go_enter Try.func58, Try.ntmps58
    go_wp2_with fail
    refine (shardOk_spec lo hi a m cap xs _ (h.below hb0 (Nat.le_refl _))).mono ?_
    rintro e w1 ⟨rfl, hb1⟩
    rw [HOK.out]
    have BB1 := hb0.trans (hb1.mono hb0.size)
    have HR0 : Hid (Box3 w1 (w.heap.size + 1) 0 0 none 0 0) := Lib.hid (by
      have e := (Box3.new (w.alloc (.cells #[.int .i64 lo, .int .i64 hi, .slice a m cap] 64)) 0 0 none 0 0 64).below hb1
      rw [World.size_alloc] at e
      exact e)
    obtain ⟨r0, r1, r2, rf0, rf1, rf2⟩ := HR0.out
    have hzr := HR0.out.lt
    go_wp2
    refine bodyPost_ret (v := .tuple #[.agg #[.int .i64 0, .int .i64 0, .slice none 0 0], .bool false]) (by simp [results, Try.results58, go_sem, r0, r1, r2]) rfl ?_
    rw [HF.out]
    exact RetShK.zero (BB1.trans ((put3_win w1 (w.heap.size + 1) _ _ _).below (by omega) BB1.size))
end Go.Proofs.Ytkgalkaafocnjaa

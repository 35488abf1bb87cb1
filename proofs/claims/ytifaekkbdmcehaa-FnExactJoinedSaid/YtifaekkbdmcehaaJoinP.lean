/- Joining shards: the plain function; what holds while the edges are placed. -/
import Derived.Test.YtifaekkbdmcehaaShardP
import Derived.Test.YtifaekkbdmcehaaShardSK
import Derived.Test.YtifaekkbdmcehaaGraphK
import Derived.Test.YtifaekkbdmcehaaNest
namespace Go.Proofs.Ytifaekkbdmcehaa
open Go.RowKit
def atSh (D : List (Int × Int × List SEdgeR)) (k : Nat) : Int × Int × List SEdgeR := D.getD k (0, 0, [])
def jLast (D : List (Int × Int × List SEdgeR)) (k : Nat) : Int := if k = 0 then 0 else (atSh D (k - 1)).2.1
def jCnt (D : List (Int × Int × List SEdgeR)) (k : Nat) : Nat := ((D.take k).map fun s => s.2.2.length).sum
def jStep (D : List (Int × Int × List SEdgeR)) (k : Nat) : Bool := shardB (atSh D k).1 (atSh D k).2.1 (atSh D k).2.2 && decide ((atSh D k).1 = jLast D k)
def jAll (D : List (Int × Int × List SEdgeR)) : Bool := (List.range D.length).all (jStep D)
def jHead (n : Int) (D : List (Int × Int × List SEdgeR)) : Bool := decide (0 ≤ n) && (decide (n ≤ 150) && (jAll D && (decide (jLast D D.length = n) && decide (jCnt D D.length ≤ 400))))
def jBad (n : Int) (M : Nat) (e : SEdgeR) (s : List Bool) : Bool := decide (n ≤ e.fr) || (decide ((M : Int) ≤ e.ix) || s.getD e.ix.toNat false)
def plc (n : Int) (M : Nat) : List SEdgeR → List EdgeR → List Bool → Bool × List EdgeR
  | [], g, _ => (true, g)
  | e :: r, g, s => if jBad n M e s then (false, []) else plc n M r (g.set e.ix.toNat ⟨e.fr, e.to, e.wt⟩) (s.set e.ix.toNat true)
def jE (D : List (Int × Int × List SEdgeR)) (k : Nat) : List SEdgeR := (D.drop k).flatMap fun s => s.2.2
def jPlc (n : Int) (D : List (Int × Int × List SEdgeR)) : Bool × List EdgeR := plc n (jCnt D D.length) (jE D 0) (List.replicate (jCnt D D.length) ⟨0, 0, 0⟩) (List.replicate (jCnt D D.length) false)
def joinedF (n : Int) (D : List (Int × Int × List SEdgeR)) : (Int × List EdgeR) × Bool := if jHead n D && (jPlc n D).1 then ((n, (jPlc n D).2), true) else ((0, []), false)
theorem joinedF_head {n : Int} {D : List (Int × Int × List SEdgeR)} (h : jHead n D = false) : joinedF n D = ((0, []), false) := by unfold joinedF; rw [h]; rfl
theorem joinedF_plc {n : Int} {D : List (Int × Int × List SEdgeR)} (h : (jPlc n D).1 = false) : joinedF n D = ((0, []), false) := by unfold joinedF; rw [h, Bool.and_false]; rfl
theorem joinedF_yes {n : Int} {D : List (Int × Int × List SEdgeR)} {g : List EdgeR} (h : jHead n D = true) (h2 : jPlc n D = (true, g)) : joinedF n D = ((n, g), true) := by unfold joinedF; rw [h, h2]; rfl
theorem jLast_succ (D : List (Int × Int × List SEdgeR)) (k : Nat) : jLast D (k + 1) = (atSh D k).2.1 := by unfold jLast; rw [if_neg (by omega), Nat.add_sub_cancel]
theorem jCnt_succ (D : List (Int × Int × List SEdgeR)) (k : Nat) (h : k < D.length) : jCnt D (k + 1) = jCnt D k + (atSh D k).2.2.length := by
  unfold jCnt atSh
  rw [List.take_succ_eq_append_getElem h, List.map_append, List.sum_append]
  simp [List.getD, h]
theorem jCnt_le {D : List (Int × Int × List SEdgeR)} : ∀ k, k ≤ D.length → (∀ i, i < k → jStep D i = true) → jCnt D k ≤ 400 * k := by
  intro k
  induction k with
  | zero => intro _ _; unfold jCnt; simp
  | succ k ih =>
    intro hk hs
    rw [jCnt_succ D k (by omega)]
    have h1 := ih (by omega) (fun i hi => hs i (by omega))
    have h2 := hs k (by omega)
    unfold jStep at h2
    simp only [Bool.and_eq_true] at h2
    have h3 := (shardB_yes h2.1).2.2.2.1
    omega
theorem jAll_no {D : List (Int × Int × List SEdgeR)} {k : Nat} (hk : k < D.length) (h : jStep D k = false) (n : Int) : jHead n D = false := by
  have : jAll D = false := by
    unfold jAll
    rw [List.all_eq_false]
    exact ⟨k, by simpa using hk, by simp [h]⟩
  unfold jHead
  rw [this]
  simp
theorem jAll_yes {D : List (Int × Int × List SEdgeR)} (h : ∀ i, i < D.length → jStep D i = true) : jAll D = true := by
  unfold jAll
  rw [List.all_eq_true]
  intro i hi
  exact h i (by simpa using hi)
def jRest (D : List (Int × Int × List SEdgeR)) (k j : Nat) : List SEdgeR := (atSh D k).2.2.drop j ++ jE D (k + 1)
theorem jRest_zero (D : List (Int × Int × List SEdgeR)) (k : Nat) (h : k < D.length) : jE D k = jRest D k 0 := by
  unfold jRest jE atSh
  rw [List.drop_eq_getElem_cons h, List.flatMap_cons, List.drop_zero]
  simp [List.getD, h]
theorem jRest_cons (D : List (Int × Int × List SEdgeR)) (k j : Nat) (h : j < (atSh D k).2.2.length) : jRest D k j = atSEdge (atSh D k).2.2 j :: jRest D k (j + 1) := by
  unfold jRest
  rw [List.drop_eq_getElem_cons h, List.cons_append, atSEdge_eq _ _ h]
theorem jRest_end (D : List (Int × Int × List SEdgeR)) (k j : Nat) (h : (atSh D k).2.2.length ≤ j) : jRest D k j = jE D (k + 1) := by
  unfold jRest
  rw [List.drop_of_length_le h, List.nil_append]
theorem jE_end (D : List (Int × Int × List SEdgeR)) : jE D D.length = [] := by unfold jE; rw [List.drop_length]; rfl
theorem plc_nil (n : Int) (M : Nat) (g : List EdgeR) (s : List Bool) : plc n M [] g s = (true, g) := rfl
theorem plc_bad {n : Int} {M : Nat} {e : SEdgeR} {r : List SEdgeR} {g : List EdgeR} {s : List Bool} (h : jBad n M e s = true) : plc n M (e :: r) g s = (false, []) := by unfold plc; rw [if_pos h]
theorem plc_ok {n : Int} {M : Nat} {e : SEdgeR} {r : List SEdgeR} {g : List EdgeR} {s : List Bool} (h : jBad n M e s = false) : plc n M (e :: r) g s = plc n M r (g.set e.ix.toNat ⟨e.fr, e.to, e.wt⟩) (s.set e.ix.toNat true) := by
  show (if jBad n M e s then _ else _) = _
  rw [if_neg (by rw [h]; simp)]
/-- Block b holds the graph, and is not frozen. -/
structure BoxG (w : World) (b : Nat) (n : Int) (a : Option Addr) (m c : Nat) : Prop where
  c0 : w.cell? ⟨b, 0, none⟩ = some (.int .i64 n)
  c1 : w.cell? ⟨b, 1, none⟩ = some (.slice a m c)
  f0 : w.frozen? ⟨b, 0, none⟩ = false
  f1 : w.frozen? ⟨b, 1, none⟩ = false
theorem BoxG.lt {w : World} {b : Nat} {n : Int} {a : Option Addr} {m c : Nat} (h : BoxG w b n a m c) : b < w.heap.size := World.block_lt_of_cell? _ _ h.c0
theorem BoxG.keep {w w' : World} {b : Nat} {n : Int} {a : Option Addr} {m c : Nat} (h : BoxG w b n a m c) (hb : w'.heap[b]? = w.heap[b]?) : BoxG w' b n a m c := by
  have c' : ∀ o, w'.cell? ⟨b, o, none⟩ = w.cell? ⟨b, o, none⟩ := fun o => World.cell?_of_block (w := w) (a := ⟨b, o, none⟩) hb
  have f : ∀ o, w'.frozen? ⟨b, o, none⟩ = w.frozen? ⟨b, o, none⟩ := fun o => by unfold World.frozen?; rw [hb]
  exact ⟨(c' 0).trans h.c0, (c' 1).trans h.c1, (f 0).trans h.f0, (f 1).trans h.f1⟩
theorem BoxG.below {w w' : World} {b : Nat} {n : Int} {a : Option Addr} {m c : Nat} (h : BoxG w b n a m c) (hb : Below w.heap.size w w') : BoxG w' b n a m c := h.keep (hb.block b h.lt)
theorem BoxG.new (w : World) (n : Int) (a : Option Addr) (m c : Nat) (t : TypeId) : BoxG (w.alloc (.cells #[.int .i64 n, .slice a m c] t)) w.heap.size n a m c := by
  refine ⟨?_, ?_, ?_, ?_⟩ <;> simp [go_sem]
/-- What holds while the edges are placed. -/
structure JInv (n : Int) (D : List (Int × Int × List SEdgeR)) (w : World) (G Gb S M : Nat) (rest : List SEdgeR) (gs : List EdgeR) (ss : List Bool) (wr : World) : Prop where
  own : wr.ownsRow (w.heap.size + 1) 89 3 (.slice (some ⟨G, 0, none⟩) M M) M (gs.flatMap encEdge)
  seen : wr.ownsRow (w.heap.size + 1) 4 1 (.slice (some ⟨S, 0, none⟩) M M) M (ss.map Value.bool)
  gl : gs.length = M
  sl : ss.length = M
  box : BoxG wr Gb n (some ⟨G, 0, none⟩) M M
  res : BoxG wr w.heap.size 0 none 0 0
  bel : Below w.heap.size w wr
  wg : w.heap.size < G
  gb : G < Gb
  bs : Gb < S
  run : jPlc n D = plc n M rest gs ss
theorem own_later {w w' : World} {b : Nat} {e : TypeId} {sz : Nat} {v : Value} {n : Nat} {xs : List Value} (h : w.ownsRow b e sz v n xs) (hb : Below w.heap.size w w') : w'.ownsRow b e sz v n xs := own_below h hb (Nat.le_refl _)
theorem JInv.later {n : Int} {D : List (Int × Int × List SEdgeR)} {w : World} {G Gb S M : Nat} {rest : List SEdgeR} {gs : List EdgeR} {ss : List Bool} {wr w' : World} (h : JInv n D w G Gb S M rest gs ss wr) (hb : Below wr.heap.size wr w') : JInv n D w G Gb S M rest gs ss w' :=
  ⟨own_later h.own hb, own_later h.seen hb, h.gl, h.sl, h.box.below hb, h.res.below hb, h.bel.trans (hb.mono h.bel.size), h.wg, h.gb, h.bs, h.run⟩
theorem JInv.rest_eq {n : Int} {D : List (Int × Int × List SEdgeR)} {w : World} {G Gb S M : Nat} {rest rest' : List SEdgeR} {gs : List EdgeR} {ss : List Bool} {wr : World} (h : JInv n D w G Gb S M rest gs ss wr) (e : rest = rest') : JInv n D w G Gb S M rest' gs ss wr := by rw [← e]; exact h
theorem flatEdge_set (gs : List EdgeR) (k : Nat) (h : k < gs.length) (x : EdgeR) : (((gs.flatMap encEdge).set (k * 3) (.int .i64 x.fr)).set (k * 3 + 1) (.int .i64 x.to)).set (k * 3 + 2) (.int .i64 x.wt) = (gs.set k x).flatMap encEdge := flat_set encEdge 3 lenEdge gs k h x
theorem JInv.put {n : Int} {D : List (Int × Int × List SEdgeR)} {w : World} {G Gb S M : Nat} {e : SEdgeR} {rest : List SEdgeR} {gs : List EdgeR} {ss : List Bool} {wr : World} (h : JInv n D w G Gb S M (e :: rest) gs ss wr) (hb : jBad n M e ss = false) {ix : Nat} (hx : e.ix = (ix : Int)) (hM : ix < M) :
    JInv n D w G Gb S M rest (gs.set ix ⟨e.fr, e.to, e.wt⟩) (ss.set ix true) ((((wr.setCell ⟨S, ix, none⟩ (.bool true)).setCell ⟨G, ix * 3, none⟩ (.int .i64 e.fr)).setCell ⟨G, ix * 3 + 1, none⟩ (.int .i64 e.to)).setCell ⟨G, ix * 3 + 2, none⟩ (.int .i64 e.wt)) := by
  have hwg := h.wg
  have hgb := h.gb
  have hbs := h.bs
  have w1 := Win.set (lo := S) (hi := S + 1) wr S ix (.bool true) (Nat.le_refl _) (Nat.lt_succ_self _)
  have w2 := ((Win.set (lo := G) (hi := G + 1) (wr.setCell ⟨S, ix, none⟩ (.bool true)) G (ix * 3) (.int .i64 e.fr) (Nat.le_refl _) (Nat.lt_succ_self _)).trans (Win.set _ G (ix * 3 + 1) (.int .i64 e.to) (Nat.le_refl _) (Nat.lt_succ_self _))).trans (Win.set _ G (ix * 3 + 2) (.int .i64 e.wt) (Nat.le_refl _) (Nat.lt_succ_self _))
  have o1 := own_keep h.own (fun g hg => w1.block g (World.ownsRow.lt h.own g hg).2 (by cases hg; dsimp only; omega))
  have s1 := (h.seen.stored ix (.bool true)).1
  have s2 := own_keep s1 (fun g hg => w2.block g (World.ownsRow.lt s1 g hg).2 (by cases hg; dsimp only; omega))
  have o2 := (((o1.stored (ix * 3) (.int .i64 e.fr)).1.stored (ix * 3 + 1) (.int .i64 e.to)).1.stored (ix * 3 + 2) (.int .i64 e.wt)).1
  rw [flatEdge_set gs ix (by rw [h.gl]; exact hM) ⟨e.fr, e.to, e.wt⟩] at o2
  have b1 := h.box.keep (w1.block Gb h.box.lt (by omega))
  have r1 := h.res.keep (w1.block w.heap.size h.res.lt (by omega))
  have hrun := h.run
  rw [plc_ok hb, hx, Int.toNat_natCast] at hrun
  refine ⟨o2, ?_, by rw [List.length_set]; exact h.gl, by rw [List.length_set]; exact h.sl, b1.keep (w2.block Gb b1.lt (by omega)), r1.keep (w2.block w.heap.size r1.lt (by omega)), (h.bel.trans (w1.below (by omega) h.bel.size)).trans (w2.below (by omega) (by rw [size_set]; exact h.bel.size)), hwg, hgb, hbs, hrun⟩
  have e1 : (ss.map Value.bool).set ix (.bool true) = (ss.set ix true).map Value.bool := by rw [List.map_set]
  rw [e1] at s2
  exact s2
/-- A call's end: it returned a graph of its own and a bool. -/
def RetGrK (r : (Int × List EdgeR) × Bool) (w : World) (en : Ending) (w' : World) : Prop := ∃ y : GraphR, en = .returned (.tuple #[.agg #[.int .i64 y.n, .slice y.edgesA y.edgesN y.edgesC], .bool r.2]) ∧ datGraph y = r.1 ∧ OwnGraph w.heap.size w'.heap.size w' y ∧ bulkGraph y ≤ 1048576 ∧ Below w.heap.size w w'
theorem OwnS.nilG (lo : Nat) (w : World) : OwnS encEdge 3 89 lo w.heap.size w none 0 0 [] := ⟨rfl, World.ownsRow_nil _ _ _ _, fun g hg => by simp [Value.ownBlock] at hg, Nat.le_refl _, Nat.zero_le _⟩
theorem RetGrK.zero {w w' : World} (hb : Below w.heap.size w w') : RetGrK ((0, []), false) w (.returned (.tuple #[.agg #[.int .i64 0, .slice none 0 0], .bool false])) w' :=
  ⟨⟨0, none, 0, 0, []⟩, rfl, rfl, ⟨OwnS.nilG _ _, Nat.le_refl _⟩, Nat.zero_le _, hb⟩
theorem put2_win (w : World) (b : Nat) (u0 u1 : Value) : Win b (b + 1) w ((w.setCell ⟨b, 0, none⟩ u0).setCell ⟨b, 1, none⟩ u1) := (Win.set w b 0 u0 (Nat.le_refl _) (Nat.lt_succ_self _)).trans (Win.set _ b 1 u1 (Nat.le_refl _) (Nat.lt_succ_self _))
theorem JInv.fin {n : Int} {D : List (Int × Int × List SEdgeR)} {w : World} {G Gb S M : Nat} {gs : List EdgeR} {ss : List Bool} {wr : World} (h : JInv n D w G Gb S M [] gs ss wr) (hh : jHead n D = true) (hM : M ≤ 400) :
    RetGrK (joinedF n D) w (.returned (.tuple #[.agg #[.int .i64 n, .slice (some ⟨G, 0, none⟩) M M], .bool true])) ((wr.setCell ⟨w.heap.size, 0, none⟩ (.int .i64 n)).setCell ⟨w.heap.size, 1, none⟩ (.slice (some ⟨G, 0, none⟩) M M)) := by
  have hw := put2_win wr w.heap.size (.int .i64 n) (.slice (some ⟨G, 0, none⟩) M M)
  have hwg := h.wg
  rw [joinedF_yes hh (by rw [h.run, plc_nil])]
  have ho := own_keep h.own (fun g hg => hw.block g (World.ownsRow.lt h.own g hg).2 (by cases hg; dsimp only; omega))
  exact ⟨⟨n, some ⟨G, 0, none⟩, M, M, gs⟩, rfl, rfl, ⟨(OwnS.of ho h.gl (by omega)).lo_le (by omega), Nat.le_refl _⟩, (by unfold bulkGraph; simp only; omega), h.bel.trans (hw.below (Nat.le_refl _) h.bel.size)⟩
end Go.Proofs.Ytifaekkbdmcehaa

import Derived.Test.YthffmjeodoinlaaDoorRows
import Derived.Test.YthffmjeodoinlaaDoorOwn
import Derived.Test.YthffmjeodoinlaaDoorOpen
import Derived.Test.YthffmjeodoinlaaDoorRowS
import Derived.Test.YthffmjeodoinlaaDoorKeep
import Derived.Test.YthffmjeodoinlaaDoorEnds
import Derived.Test.YthffmjeodoinlaaDoorDegP
import Derived.Test.YthffmjeodoinlaaDoorIntS
import Derived.Test.YthffmjeodoinlaaDoorTyShard
import Derived.Test.YthffmjeodoinlaaDoorSEdgeS
import Derived.Test.YthffmjeodoinlaaDoorNest
import Derived.Test.YthffmjeodoinlaaDoorShardP
import Derived.Test.YthffmjeodoinlaaDoorRow
import Derived.Test.YthffmjeodoinlaaDoorShardOkI
import Derived.Lib.SplitLaws
import Derived.Lib.IndexBytes
import Derived.Lib.AtoiAll
import Derived.Lib.ItoaNum
import Derived.Test.YthffmjeodoinlaaDoorLib
import Derived.Lib.LaidTab
import Derived.Laws.BytesArg
import Derived.Laws.Concat
import Derived.Shelf.Strings.OnBuilder
import Derived.Shelf.Strconv.Itoa3
import Derived.Shelf.LaysM
import Derived.Test.YthffmjeodoinlaaDoorProg
import Derived.Test.YthffmjeodoinlaaDoorNum
import Derived.Lib.AppendIntMem
import Derived.Deep.RegionWith
import Derived.ProofKit
import Derived.Test.YthffmjeodoinlaaDoorTie
import Derived.Test.YthffmjeodoinlaaDoorCards
import Derived.Deep.DeepHandedRow
import Derived.Lay
import Derived.LaidOnce
import Derived.Stop.LaidErr
import Derived.SevenTiedAt
/- The helpers toByteS, eqByteS, markByteS, heldByteS of the statements: what each call does. -/
namespace Go.Proofs.YthffmjeodoinlaaDoor
open Go.RowKit
theorem infoByteS : (Tryd.prog.info? 5).map (fun i => (i.zero, i.size, i.bytes)) = some (some (.int .u8 0), 1, 1) := by kernel_rfl

end Go.Proofs.YthffmjeodoinlaaDoor

/- The struct Edge as data: its cells, and what the form's reading of it gives. -/
namespace Go.Proofs.YthffmjeodoinlaaDoor
open Go.ChangeShapes Go.WideShapes Go.ChangeAt Go.RowKit Go.Deep
structure EdgeR where
  fr : Int
  to : Int
  wt : Int
deriving DecidableEq
def encEdge (r : EdgeR) : List Value := [.int .i64 r.fr, .int .i64 r.to, .int .i64 r.wt]
def goodEdge (_w : World) (r : EdgeR) : Prop := (In64 r.fr) ∧ (In64 r.to) ∧ (In64 r.wt)
theorem goodEdge_below {w w' : World} {r : EdgeR} (h : goodEdge w r) {B : Nat} (_hb : Below B w w') (_hB : w.heap.size ≤ B) : goodEdge w' r := ⟨h.1, h.2.1, h.2.2⟩
end Go.Proofs.YthffmjeodoinlaaDoor

/- The struct Graph as data: its cells, and what the form's reading of it gives. -/
namespace Go.Proofs.YthffmjeodoinlaaDoor
open Go.ChangeShapes Go.WideShapes Go.ChangeAt Go.RowKit Go.Deep
structure GraphR where
  n : Int
  edgesA : Option Addr
  edgesN : Nat
  edgesC : Nat
  edges : List EdgeR
def encGraph (r : GraphR) : List Value := [.int .i64 r.n, .slice r.edgesA r.edgesN r.edgesC]
def goodGraph (w : World) (r : GraphR) : Prop := (In64 r.n) ∧ (Rd encEdge 3 w r.edgesA r.edgesN r.edgesC r.edges ∧ ∀ y ∈ r.edges, (goodEdge w) y)
theorem goodGraph_below {w w' : World} {r : GraphR} (h : goodGraph w r) {B : Nat} (hb : Below B w w') (hB : w.heap.size ≤ B) : goodGraph w' r := ⟨h.1, ⟨h.2.1.below hb hB, fun y hy => goodEdge_below (h.2.2 y hy) hb hB⟩⟩
end Go.Proofs.YthffmjeodoinlaaDoor

/- Rows of the struct Edge: its cells, toX, eqX, toXS, eqXS, szXS of the statements. -/
namespace Go.Proofs.YthffmjeodoinlaaDoor
open Go.RowKit
def atEdge (xs : List EdgeR) (j : Nat) : EdgeR := xs.getD j ⟨0, 0, 0⟩
theorem atEdge_eq (xs : List EdgeR) (j : Nat) (h : j < xs.length) : atEdge xs j = xs[j] := by simp [atEdge, List.getD, h]
theorem lenEdge : ∀ x : EdgeR, (encEdge x).length = 3 := fun _ => rfl
/-- The cells of a row, in the walk's own spelling. -/
theorem Rd.rowEdge {w : World} {a : Option Addr} {n cap : Nat} {xs : List EdgeR} (h : Rd encEdge 3 w a n cap xs) (hn : 0 < n) :
    ∃ b off, a = some ⟨b, off, none⟩ ∧ b < w.heap.size ∧ ∀ j, j < n → w.cell? ⟨b, off + j * 3, none⟩ = some (.int .i64 (atEdge xs j).fr) ∧ w.cell? ⟨b, off + j * 3 + 1, none⟩ = some (.int .i64 (atEdge xs j).to) ∧ w.cell? ⟨b, off + j * 3 + 2, none⟩ = some (.int .i64 (atEdge xs j).wt) := by
  obtain ⟨b, off, ha, hl, hc⟩ := h.spot hn
  refine ⟨b, off, ha, hl, fun j hj => ?_⟩
  have hj' : j < xs.length := by rw [h.len]; exact hj
  rw [atEdge_eq xs j hj']
  exact ⟨hc j hj' 0 (.int .i64 xs[j].fr) rfl, hc j hj' 1 (.int .i64 xs[j].to) rfl, hc j hj' 2 (.int .i64 xs[j].wt) rfl⟩
theorem infoEdge : (Tryd.prog.info? 52).map (fun i => (i.zero, i.size, i.bytes)) = some (some (.agg #[.int .i64 0, .int .i64 0, .int .i64 0]), 3, 24) := by kernel_rfl
theorem take_succEdge {xs ys : List EdgeR} {k : Nat} (h : xs.take k = ys.take k) (h1 : k < xs.length) (h2 : k < ys.length) (he : atEdge xs k = atEdge ys k) : xs.take (k + 1) = ys.take (k + 1) := by
  rw [List.take_succ_eq_append_getElem h1, List.take_succ_eq_append_getElem h2, h]
  rw [atEdge_eq xs k h1, atEdge_eq ys k h2] at he
  rw [he]
end Go.Proofs.YthffmjeodoinlaaDoor

/- Graph in the form that the laws' walks use: szX, toX, eqX, markX, heldX of the statements over a Graph of the call's own. -/
namespace Go.Proofs.YthffmjeodoinlaaDoor
open Go.RowKit
def datGraph (y : GraphR) : Int × List EdgeR := (y.n, y.edges)
def okGraph (y : GraphR) : Prop := (In64 y.n) ∧ ∀ w0 : World, ∀ z ∈ y.edges, goodEdge w0 z
structure OwnGraph (lo hi : Nat) (w : World) (y : GraphR) : Prop where
  row : OwnS encEdge 3 52 lo hi w y.edgesA y.edgesN y.edgesC y.edges
  top : hi ≤ w.heap.size
theorem OwnGraph.below {lo hi : Nat} {w w' : World} {y : GraphR} (h : OwnGraph lo hi w y) (hb : Below w.heap.size w w') : OwnGraph lo hi w' y := ⟨h.row.below hb, Nat.le_trans h.top hb.size⟩
theorem OwnGraph.win {lo hi lo' hi' : Nat} {w w' : World} {y : GraphR} (h : OwnGraph lo hi w y) (hw : Win lo' hi' w w') (hd : hi' ≤ lo ∨ hi ≤ lo') : OwnGraph lo hi w' y := ⟨h.row.win hw hd, Nat.le_trans h.top hw.size⟩
theorem OwnGraph.lo_le {lo hi lo' : Nat} {w : World} {y : GraphR} (h : OwnGraph lo hi w y) (hl : lo' ≤ lo) : OwnGraph lo' hi w y := ⟨h.row.lo_le hl, h.top⟩
theorem OwnGraph.good {lo hi : Nat} {w : World} {y : GraphR} (h : OwnGraph lo hi w y) (g : okGraph y) : goodGraph w y := ⟨g.1, h.row.rd lenEdge, g.2 w⟩
theorem goodGraph_ok {w : World} {y : GraphR} (g : goodGraph w y) : okGraph y := ⟨g.1, fun _ => g.2.2⟩
theorem okGraph_dat {y y' : GraphR} (g : okGraph y) (h : datGraph y' = datGraph y) : okGraph y' := by
  unfold datGraph at h
  simp only [Prod.mk.injEq] at h
  obtain ⟨h0, h1⟩ := h
  unfold okGraph
  rw [h0, h1]
  exact g
/-- How much of the budget it takes. -/
def bulkGraph (y : GraphR) : Nat := y.edgesN
end Go.Proofs.YthffmjeodoinlaaDoor

/- The ends that Cut gives are right: plain. -/
namespace Go.Proofs.YthffmjeodoinlaaDoor
theorem cutF_inc (b : Int) : ∀ (l : List Int) (sum : Int) (v : Nat) (lo : Int), lo < v → incB lo (cutF b sum v l) = some ((v : Int) + l.length) := by
  intro l
  induction l with
  | nil => intro sum v lo h; simp only [cutF, incB]; rw [if_neg (by omega)]; simp
  | cons d r ih =>
    intro sum v lo h
    simp only [cutF]
    split
    · simp only [incB]
      rw [if_neg (by omega), ih d (v + 1) v (by omega), List.length_cons]
      congr 1
      omega
    · rw [ih (sum + d) (v + 1) lo (by omega), List.length_cons]
      congr 1
      omega
theorem cutL_ends (b : Int) {l : List Int} (h : 0 < l.length) (h150 : l.length ≤ 150) : endsB l.length (cutL b l) = true := by
  rw [cutL_start b h]
  unfold endsB
  rw [cutF_inc b _ _ 1 0 (by omega), List.length_drop]
  simp
  omega
end Go.Proofs.YthffmjeodoinlaaDoor

/- GraphOk of the program and of the reference: what they compute. -/
namespace Go.Proofs.YthffmjeodoinlaaDoor
open Go.RowKit
def edgeAt (xs : List EdgeR) (j : Nat) : EdgeR := xs.getD j ⟨0, 0, 0⟩
theorem edgeAt_eq (xs : List EdgeR) (j : Nat) (h : j < xs.length) : edgeAt xs j = xs[j] := by simp [edgeAt, List.getD, h]
/-- The cells of a row of edges, in the walk's own spelling. -/
theorem Rd.edges {w : World} {a : Option Addr} {n cap : Nat} {xs : List EdgeR} (h : Rd encEdge 3 w a n cap xs) (hn : 0 < n) :
    ∃ b off, a = some ⟨b, off, none⟩ ∧ b < w.heap.size ∧ ∀ j, j < n → w.cell? ⟨b, off + j * 3, none⟩ = some (.int .i64 (edgeAt xs j).fr) ∧ w.cell? ⟨b, off + j * 3 + 1, none⟩ = some (.int .i64 (edgeAt xs j).to) ∧ w.cell? ⟨b, off + j * 3 + 2, none⟩ = some (.int .i64 (edgeAt xs j).wt) := by
  obtain ⟨b, off, ha, hl, hc⟩ := h.spot hn
  refine ⟨b, off, ha, hl, fun j hj => ?_⟩
  have hj' : j < xs.length := by rw [h.len]; exact hj
  rw [edgeAt_eq xs j hj']
  have h0 := hc j hj' 0 (.int .i64 xs[j].fr) rfl
  exact ⟨by simpa using h0, hc j hj' 1 (.int .i64 xs[j].to) rfl, hc j hj' 2 (.int .i64 xs[j].wt) rfl⟩
def edgeB (n : Int) (e : EdgeR) : Bool := decide (0 ≤ e.fr) && decide (e.fr < n) && decide (0 ≤ e.to) && decide (e.to < n) && decide (0 ≤ e.wt) && decide (e.wt ≤ 1000)
theorem edgeB_yes {n : Int} {e : EdgeR} (h : edgeB n e = true) : 0 ≤ e.fr ∧ e.fr < n ∧ 0 ≤ e.to ∧ e.to < n ∧ 0 ≤ e.wt ∧ e.wt ≤ 1000 := by
  simp [edgeB] at h; omega
theorem edgeB_no {n : Int} {e : EdgeR} (h : edgeB n e = false) : e.fr < 0 ∨ (0 ≤ e.fr ∧ n ≤ e.fr) ∨ (0 ≤ e.fr ∧ e.fr < n ∧ e.to < 0) ∨ (0 ≤ e.fr ∧ e.fr < n ∧ 0 ≤ e.to ∧ n ≤ e.to) ∨ (0 ≤ e.fr ∧ e.fr < n ∧ 0 ≤ e.to ∧ e.to < n ∧ e.wt < 0) ∨ (0 ≤ e.fr ∧ e.fr < n ∧ 0 ≤ e.to ∧ e.to < n ∧ 0 ≤ e.wt ∧ 1000 < e.wt) := by
  simp [edgeB] at h; omega
def graphB (n : Int) (xs : List EdgeR) : Bool := decide (0 ≤ n) && decide (n ≤ 150) && decide (xs.length ≤ 400) && xs.all (edgeB n)
theorem graphB_no {n : Int} {xs : List EdgeR} {k : Nat} (h : k < xs.length) (he : edgeB n (edgeAt xs k) = false) : graphB n xs = false := by
  rw [edgeAt_eq xs k h] at he
  have : xs.all (edgeB n) = false := by
    rw [List.all_eq_false]
    exact ⟨xs[k], List.getElem_mem h, by simp [he]⟩
  simp [graphB, this]
theorem all_step {xs : List EdgeR} {f : EdgeR → Bool} {k : Nat} (h : k < xs.length) (ha : (xs.take k).all f = true) (he : f (edgeAt xs k) = true) : (xs.take (k + 1)).all f = true := by
  rw [edgeAt_eq xs k h] at he
  rw [List.take_succ_eq_append_getElem h, List.all_append, ha]
  simp [he]
end Go.Proofs.YthffmjeodoinlaaDoor

/- GraphOk of the program and of the reference: what they compute. -/
namespace Go.Proofs.YthffmjeodoinlaaDoor
open Go.RowKit
set_option maxRecDepth 100000 in
set_option maxHeartbeats 3200000 in
theorem graphOk_impl (n : Int) (a : Option Addr) (m cap : Nat) (xs : List EdgeR) (w : World) (h : Rd encEdge 3 w a m cap xs) :
    Calls Tryd.prog 16 #[.agg #[.int .i64 n, .slice a m cap]] w fun e w' => e = .returned (.bool (graphB n xs)) ∧ Below w.heap.size w w' := by
  have hL := Lib.hid h.len
  have hm := h.max
  have hle := h.le
  unfold maxLen at hm
  have hb0 := (Below.refl w.heap.size w).alloc (Nat.le_refl _) (.cells #[.int .i64 n, .slice a m cap] 25)
  by_cases hr : (0 ≤ n ∧ n ≤ 150) ∧ m ≤ 400
  · obtain ⟨⟨h1, h2⟩, h3⟩ := hr
    have HG : Hid (xs.all (edgeB n) = true → graphB n xs = true) := Lib.hid fun hx => by simp [graphB, h1, h2, hL.out, h3, hx]
    go_enter Tryd.func16, Tryd.ntmps16
    go_wp2
    go_loopw [22] (fun i wr => ∃ k : Nat, k ≤ m ∧ i = .int .i64 k ∧ (xs.take k).all (edgeB n) = true ∧ Below (w.heap.size + 1) (w.alloc (.cells #[.int .i64 n, .slice a m cap] 25)) wr) (fun i _ => m - (intOf i).toNat)
    case atStart => exact ⟨0, Nat.zero_le _, rfl, rfl, Below.refl _ _⟩
    case round =>
      obtain ⟨k, hk, rfl, he, hb⟩ := hrel
      have HE := Lib.hid he
      clear he
      obtain ⟨hc, hf⟩ := bcell hb
      have hz : w.heap.size < wr.heap.size := by have := hb.size; simp at this; omega
      by_cases hlt : k < m
      · obtain ⟨b1, off1, rfl, hbl1, hc1⟩ := h.edges (by omega)
        have cb : ∀ o, wr.cell? ⟨b1, o, none⟩ = w.cell? ⟨b1, o, none⟩ := fun o => (hc _ _ (by omega)).trans (hb0.cell (p := ⟨b1, o, none⟩) hbl1)
        obtain ⟨k0, k1, k2⟩ := hc1 k hlt
        rw [← cb] at k0 k1 k2
        have hi1 : (k : Int) < (m : Int) := by omega
        have g0 : wr.cell? ⟨w.heap.size, 0, none⟩ = some (.int .i64 n) := by rw [hc _ _ (by omega)]; simp [go_sem]
        have hb2 := fun o => (hb0.trans (hb.mono (Nat.le_succ _))).alloc (hb0.trans (hb.mono (Nat.le_succ _))).size o
        have hb3 := fun o => hb.alloc (by omega) o
        clear hc1 h cb hc hf
        generalize hx : edgeAt xs k = x at *
        obtain ⟨fr, to, wt⟩ := x
        simp only at k0 k1 k2
        cases hE : edgeB n ⟨fr, to, wt⟩ with
        | true =>
          obtain ⟨q1, q2, q3, q4, q5, q6⟩ := edgeB_yes hE
          simp only at q1 q2 q3 q4 q5 q6
          have HX := Lib.hid hx
          have HH := Lib.hid hE
          clear hx hE
          go_wp2
          go_roundw
          case rel => exact ⟨k + 1, by omega, by go_num, all_step (by rw [hL.out]; exact hlt) HE.out (by rw [HX.out]; exact HH.out), hb3 _⟩
          case measure => simp [intOf]; omega
        | false =>
          have q := edgeB_no hE
          have HX := Lib.hid (graphB_no (n := n) (by rw [hL.out]; exact hlt) (by rw [hx]; exact hE))
          clear hx hE
          simp only at q
          rcases q with q | ⟨q1, q2⟩ | ⟨q1, q2, q3⟩ | ⟨q1, q2, q3, q4⟩ | ⟨q1, q2, q3, q4, q5⟩ | ⟨q1, q2, q3, q4, q5, q6⟩ <;> (go_wp2; go_ret; exact ⟨by rw [HX.out]; rfl, hb2 _⟩)
      · obtain rfl : k = m := by omega
        go_wp2
        go_ret
        have := HE.out
        rw [List.take_of_length_le (by rw [hL.out]; exact Nat.le_refl _)] at this
        exact ⟨by rw [HG.out this]; rfl, hb0.trans (hb.mono (Nat.le_succ _))⟩
  · have HF := Lib.hid (show graphB n xs = false from by
      cases hg : graphB n xs with
      | false => rfl
      | true => simp [graphB, hL.out] at hg; omega)
    by_cases a1 : 0 ≤ n
    · by_cases a2 : n ≤ 150
      · have a3 : 400 < m := by omega
        clear hr
        go_enter Tryd.func16, Tryd.ntmps16
        go_wp2
        go_ret
        exact ⟨by rw [HF.out]; rfl, hb0⟩
      · clear hr
        go_enter Tryd.func16, Tryd.ntmps16
        go_wp2
        go_ret
        exact ⟨by rw [HF.out]; rfl, hb0⟩
    · clear hr
      go_enter Tryd.func16, Tryd.ntmps16
      go_wp2
      go_ret
      exact ⟨by rw [HF.out]; rfl, hb0⟩
set_option maxRecDepth 100000 in
set_option maxHeartbeats 3200000 in
theorem graphOk_spec (n : Int) (a : Option Addr) (m cap : Nat) (xs : List EdgeR) (w : World) (h : Rd encEdge 3 w a m cap xs) :
    Calls Tryd.prog 24 #[.agg #[.int .i64 n, .slice a m cap]] w fun e w' => e = .returned (.bool (graphB n xs)) ∧ Below w.heap.size w w' := by
  have hL := Lib.hid h.len
  have hm := h.max
  have hle := h.le
  unfold maxLen at hm
  have hb0 := (Below.refl w.heap.size w).alloc (Nat.le_refl _) (.cells #[.int .i64 n, .slice a m cap] 25)
  go_enter Tryd.func24, Tryd.ntmps24
  go_wp2
  go_loopw [8] (fun i wr => ∃ k : Nat, k ≤ m ∧ i = .int .i64 k ∧ (xs.take k).all (edgeB n) = true ∧ Below (w.heap.size + 1) (w.alloc (.cells #[.int .i64 n, .slice a m cap] 25)) wr) (fun i _ => m - (intOf i).toNat)
  case atStart => exact ⟨0, Nat.zero_le _, rfl, rfl, Below.refl _ _⟩
  case round =>
    obtain ⟨k, hk, rfl, he, hb⟩ := hrel
    have HE := Lib.hid he
    clear he
    obtain ⟨hc, hf⟩ := bcell hb
    have hz : w.heap.size < wr.heap.size := by have := hb.size; simp at this; omega
    by_cases hlt : k < m
    · obtain ⟨b1, off1, rfl, hbl1, hc1⟩ := h.edges (by omega)
      have cb : ∀ o, wr.cell? ⟨b1, o, none⟩ = w.cell? ⟨b1, o, none⟩ := fun o => (hc _ _ (by omega)).trans (hb0.cell (p := ⟨b1, o, none⟩) hbl1)
      obtain ⟨k0, k1, k2⟩ := hc1 k hlt
      rw [← cb] at k0 k1 k2
      have hi1 : (k : Int) < (m : Int) := by omega
      have g0 : wr.cell? ⟨w.heap.size, 0, none⟩ = some (.int .i64 n) := by rw [hc _ _ (by omega)]; simp [go_sem]
      have hb2 := fun o => (hb0.trans (hb.mono (Nat.le_succ _))).alloc (hb0.trans (hb.mono (Nat.le_succ _))).size o
      have hb3 := fun o => hb.alloc (by omega) o
      clear hc1 h cb hc hf
      generalize hx : edgeAt xs k = x at *
      obtain ⟨fr, to, wt⟩ := x
      simp only at k0 k1 k2
      cases hE : edgeB n ⟨fr, to, wt⟩ with
      | true =>
        obtain ⟨q1, q2, q3, q4, q5, q6⟩ := edgeB_yes hE
        simp only at q1 q2 q3 q4 q5 q6
        have HX := Lib.hid hx
        have HH := Lib.hid hE
        clear hx hE
        go_wp2
        go_roundw
        case rel => exact ⟨k + 1, by omega, by go_num, all_step (by rw [hL.out]; exact hlt) HE.out (by rw [HX.out]; exact HH.out), hb3 _⟩
        case measure => simp [intOf]; omega
      | false =>
        have q := edgeB_no hE
        have HX := Lib.hid (graphB_no (n := n) (by rw [hL.out]; exact hlt) (by rw [hx]; exact hE))
        clear hx hE
        simp only at q
        rcases q with q | ⟨q1, q2⟩ | ⟨q1, q2, q3⟩ | ⟨q1, q2, q3, q4⟩ | ⟨q1, q2, q3, q4, q5⟩ | ⟨q1, q2, q3, q4, q5, q6⟩ <;> (go_wp2; go_ret; exact ⟨by rw [HX.out]; rfl, hb2 _⟩)
    · obtain rfl : k = m := by omega
      have g0 : wr.cell? ⟨w.heap.size, 0, none⟩ = some (.int .i64 n) := by rw [hc _ _ (by omega)]; simp [go_sem]
      have g1 : wr.cell? ⟨w.heap.size, 1, none⟩ = some (.slice a k cap) := by rw [hc _ _ (by omega)]; simp [go_sem]
      have hA := HE.out
      rw [List.take_of_length_le (by rw [hL.out]; exact Nat.le_refl _)] at hA
      have HG := Lib.hid (show graphB n xs = (decide (0 ≤ n) && decide (n ≤ 150) && decide (k ≤ 400)) from by simp [graphB, hL.out, hA])
      clear hA hc hf
      by_cases a1 : 0 ≤ n
      · by_cases a2 : n ≤ 150
        · by_cases a3 : k ≤ 400
          · have HD := Lib.hid (show (decide (0 ≤ n) && decide (n ≤ 150) && decide (k ≤ 400)) = true from by simp [a1, a2, a3])
            go_wp2
            go_ret
            exact ⟨ret_b (by rw [HG.out, HD.out]; simp; omega), hb0.trans (hb.mono (Nat.le_succ _))⟩
          · have HD := Lib.hid (show (decide (0 ≤ n) && decide (n ≤ 150) && decide (k ≤ 400)) = false from by simp [a1, a2, a3])
            go_wp2
            go_ret
            exact ⟨ret_b (by rw [HG.out, HD.out]; simp; omega), hb0.trans (hb.mono (Nat.le_succ _))⟩
        · have HD := Lib.hid (show (decide (0 ≤ n) && decide (n ≤ 150) && decide (k ≤ 400)) = false from by simp [a1, a2])
          go_wp2
          go_ret
          exact ⟨ret_b (by rw [HG.out, HD.out]), hb0.trans (hb.mono (Nat.le_succ _))⟩
      · have HD := Lib.hid (show (decide (0 ≤ n) && decide (n ≤ 150) && decide (k ≤ 400)) = false from by simp [a1])
        go_wp2
        go_ret
        exact ⟨ret_b (by rw [HG.out, HD.out]), hb0.trans (hb.mono (Nat.le_succ _))⟩
end Go.Proofs.YthffmjeodoinlaaDoor

/- GraphOk in the form that the law's walk uses. -/
namespace Go.Proofs.YthffmjeodoinlaaDoor
open Go.RowKit
theorem graphOk_spec_u (y : GraphR) (D : Int × List EdgeR) (hD : datGraph y = D) (w : World) (g : goodGraph w y) :
    Calls Tryd.prog 24 #[.agg #[.int .i64 y.n, .slice y.edgesA y.edgesN y.edgesC]] w fun e w' => e = .returned (.bool (graphB D.1 D.2)) ∧ Below w.heap.size w w' := by
  subst hD
  exact graphOk_spec _ _ _ _ _ _ g.2.1
theorem graphOk_impl_u (y : GraphR) (D : Int × List EdgeR) (hD : datGraph y = D) (w : World) (g : goodGraph w y) :
    Calls Tryd.prog 16 #[.agg #[.int .i64 y.n, .slice y.edgesA y.edgesN y.edgesC]] w fun e w' => e = .returned (.bool (graphB D.1 D.2)) ∧ Below w.heap.size w w' := by
  subst hD
  exact graphOk_impl _ _ _ _ _ _ g.2.1
end Go.Proofs.YthffmjeodoinlaaDoor

/- The helpers markIntS, heldIntS of the statements: what each call does. -/
namespace Go.Proofs.YthffmjeodoinlaaDoor
open Go.RowKit

end Go.Proofs.YthffmjeodoinlaaDoor

/- InDegs and OutDegs: what they compute. -/
namespace Go.Proofs.YthffmjeodoinlaaDoor
open Go.RowKit
theorem graphB_yes {n : Int} {xs : List EdgeR} (h : graphB n xs = true) : 0 ≤ n ∧ n ≤ 150 ∧ xs.length ≤ 400 ∧ ∀ k, k < xs.length → edgeB n (edgeAt xs k) = true := by
  simp [graphB] at h
  obtain ⟨⟨⟨h1, h2⟩, h3⟩, h4⟩ := h
  exact ⟨h1, h2, h3, fun k hk => by rw [edgeAt_eq xs k hk]; exact h4 _ (List.getElem_mem hk)⟩
def degI (f : EdgeR → Int) (xs : List EdgeR) : List Nat := xs.map fun e => (f e).toNat
def degG (f : EdgeR → Int) (n : Int) (xs : List EdgeR) : List Int := if graphB n xs then tally n.toNat (degI f xs) else []
theorem degG_no {f : EdgeR → Int} {n : Int} {xs : List EdgeR} (h : graphB n xs = false) : degG f n xs = [] := by simp [degG, h]
theorem degG_yes {f : EdgeR → Int} {n : Nat} {xs : List EdgeR} (h : graphB n xs = true) : degG f n xs = tally n (degI f xs) := by simp [degG, h]
theorem degI_snoc (f : EdgeR → Int) (xs : List EdgeR) (k : Nat) (h : k < xs.length) : degI f (xs.take (k + 1)) = degI f (xs.take k) ++ [(f (edgeAt xs k)).toNat] := by
  unfold degI
  rw [List.take_succ_eq_append_getElem h, edgeAt_eq xs k h, List.map_append]; rfl
theorem tally_own {w : World} {B g N : Nat} {e : TypeId} {is : List Nat} {T : Nat} (hT : T < N) (h : w.ownsRow B e 1 (.slice (some ⟨g, 0, none⟩) N N) N ((tally N is).map (Value.int .i64))) :
    w.cell? ⟨g, T, none⟩ = some (.int .i64 ((tally N is).getD T 0)) := by
  rw [h.cellAt T (by omega), List.getElem?_map]
  have : T < (tally N is).length := by rw [tally_len]; exact hT
  simp [List.getD, this]
theorem tally_set (N : Nat) (is : List Nat) (T : Nat) : ((tally N is).map (Value.int .i64)).set T (.int .i64 ((tally N is).getD T 0 + 1)) = (tally N (is ++ [T])).map (Value.int .i64) := by
  rw [tally_snoc, ← List.map_set]; rfl
set_option maxRecDepth 100000 in
set_option maxHeartbeats 1600000 in
theorem inDegs_impl (n : Int) (a : Option Addr) (m cap : Nat) (xs : List EdgeR) (w : World) (h : Rd encEdge 3 w a m cap xs) :
    Calls Tryd.prog 17 #[.agg #[.int .i64 n, .slice a m cap]] w fun e w' => RetL .i64 3 (degG EdgeR.to n xs) w e w' := by
  have hL := Lib.hid h.len
  have hm := h.max
  have hle := h.le
  unfold maxLen at hm
  have hb0 := (Below.refl w.heap.size w).alloc (Nat.le_refl _) (.cells #[.int .i64 n, .slice a m cap] 25)
  cases hg : graphB n xs with
  | false =>
    have HG := Lib.hid hg
    have HR := Lib.hid (degG_no (f := EdgeR.to) hg)
    clear hg
    go_enter Tryd.func17, Tryd.ntmps17
    go_wp2_with fail
    refine (graphOk_impl n a m cap xs _ (h.below hb0 (Nat.le_refl _))).mono ?_
    rintro e w1 ⟨rfl, hb1⟩
    rw [HG.out]
    go_wp2
    go_ret
    rw [HR.out]
    have BB1 := hb0.trans (hb1.mono (by simp))
    exact ⟨none, 0, 0, rfl, (OwnI.nil _ _ _ _), BB1⟩
  | true =>
    obtain ⟨q1, q2, q3, q4⟩ := graphB_yes hg
    obtain ⟨N, rfl⟩ := Int.eq_ofNat_of_zero_le q1
    have HE := Lib.hid q4
    have HR := Lib.hid (degG_yes (f := EdgeR.to) hg)
    have HG := Lib.hid hg
    rw [hL.out] at q3
    clear hg q4
    obtain ⟨i0, hi, hz0, hz1, hz2⟩ := info_parts infoIntS
    go_enter Tryd.func17, Tryd.ntmps17
    go_wp2_with fail
    refine (graphOk_impl _ a m cap xs _ (h.below hb0 (Nat.le_refl _))).mono ?_
    rintro e w1 ⟨rfl, hb1⟩
    rw [HG.out]
    obtain ⟨hc, hf⟩ := bcell hb1
    have c0 : w1.cell? ⟨w.heap.size, 0, none⟩ = some (.int .i64 N) := by rw [hc _ _ (by simp)]; simp [go_sem]
    have c1 : w1.cell? ⟨w.heap.size, 1, none⟩ = some (.slice a m cap) := by rw [hc _ _ (by simp)]; simp [go_sem]
    have BB1 := hb0.trans (hb1.mono (by simp))
    have sz1 : w.heap.size < w1.heap.size := by have := hb1.size; simp at this; omega
    clear hc hf hb1
    go_wp2_with (at_make; refine wpList_make_full _ rfl _ _ 27 rfl w1.heap.size 3 i0 (.int .i64 0) 1 Tryd.underlying27 hi hz0 hz1 _ _ _ _ N rfl rfl rfl rfl ?b1 ?b2 ?b3 ?_)
    case b1 => rw [hz2]; omega
    case b2 => unfold maxLen; omega
    case b3 => simp
    intro w2 hown hgrow
    have hbel := below_grown hgrow (Nat.le_refl _) (by simp)
    have d0 := cell_later hbel c0
    have d1 := cell_later hbel c1
    have hown1 : w2.ownsRow w1.heap.size 3 1 (.slice (some ⟨w1.heap.size, 0, none⟩) N N) N ((tally N (degI EdgeR.to (xs.take 0))).map (.int .i64)) := by
      simpa [toList_madeCells_one, tally, degI, Value.cells] using hown
    have hbig := hown1.lt _ rfl
    clear hown hgrow hi hz0 hz1 hz2 c0 c1
    go_wp2
    go_loopw [15] (fun i wr => ∃ k : Nat, k ≤ m ∧ i = .int .i64 k ∧ wr.ownsRow w1.heap.size 3 1 (.slice (some ⟨w1.heap.size, 0, none⟩) N N) N ((tally N (degI EdgeR.to (xs.take k))).map (.int .i64)) ∧ Below w1.heap.size w1 wr) (fun i _ => m - (intOf i).toNat)
    case atStart => exact ⟨0, Nat.zero_le _, rfl, hown1, hbel⟩
    case round =>
      obtain ⟨k, hk, rfl, ho, hb⟩ := hrel
      clear hown1 hbel d0 d1 hbig
      by_cases hlt : k < m
      · obtain ⟨b1, off1, rfl, hbl1, hc1⟩ := h.edges (by omega)
        have cb : ∀ o, wr.cell? ⟨b1, o, none⟩ = w.cell? ⟨b1, o, none⟩ := fun o => (hb.cell (p := ⟨b1, o, none⟩) (Nat.lt_of_lt_of_le hbl1 BB1.size)).trans (BB1.cell (p := ⟨b1, o, none⟩) hbl1)
        obtain ⟨k0, k1, k2⟩ := hc1 k hlt
        rw [← cb] at k0 k1 k2
        have hkx : k < xs.length := by rw [hL.out]; exact hlt
        obtain ⟨r1, r2, r3, r4, r5, r6⟩ := edgeB_yes (HE.out k hkx)
        have HS := Lib.hid (degI_snoc EdgeR.to xs k hkx)
        have hbig := (ho.lt _ rfl).2
        have hi1 : (k : Int) < (m : Int) := by omega
        clear hc1 cb h
        generalize edgeAt xs k = x at *
        obtain ⟨fr, to, wt⟩ := x
        simp only at k0 k1 k2 r1 r2 r3 r4 r5 r6 HS
        obtain ⟨T, rfl⟩ := Int.eq_ofNat_of_zero_le r3
        have hTN : T < N := by omega
        have hcell := tally_own hTN ho
        have hbd := tally_bd N (degI EdgeR.to (xs.take k)) T
        have hlen : (degI EdgeR.to (xs.take k)).length ≤ 400 := by simp [degI]; omega
        have hset := tally_set N (degI EdgeR.to (xs.take k)) T
        have hfr := ho.frozenAt T
        have st := Lib.hid (ho.stored T (.int .i64 ((tally N (degI EdgeR.to (xs.take k))).getD T 0 + 1))).1
        rw [hset] at st
        have st := Lib.hid st.out
        clear ho
        generalize (tally N (degI EdgeR.to (xs.take k))).getD T 0 = V at *
        have v0 : 0 ≤ V := hbd.1
        have v1 : V ≤ 400 := by omega
        have hbo := fun o => (hb.setCell (p := ⟨w1.heap.size, T, none⟩) (Nat.le_refl _) (.int .i64 (V + 1))).alloc (by rw [size_set]; exact hb.size) o
        clear hbd hset hlen
        go_wp2
        go_roundw
        case rel => exact ⟨k + 1, by omega, by go_num, by rw [HS.out, Int.toNat_natCast]; exact st.out.alloc _, hbo _⟩
        case measure => simp [intOf]; omega
      · obtain rfl : k = m := by omega
        rw [List.take_of_length_le (by rw [hL.out]; exact Nat.le_refl _)] at ho
        go_wp2
        go_ret
        rw [HR.out]
        exact ⟨some ⟨w1.heap.size, 0, none⟩, N, N, rfl, (OwnI.of ho (tally_len _ _) (by omega)).lo_le BB1.size, BB1.trans (hb.mono BB1.size)⟩
theorem inDegs_impl_u (y : GraphR) (D : Int × List EdgeR) (hD : datGraph y = D) (w : World) (g : goodGraph w y) :
    Calls Tryd.prog 17 #[.agg #[.int .i64 y.n, .slice y.edgesA y.edgesN y.edgesC]] w fun e w' => RetL .i64 3 (degG EdgeR.to D.1 D.2) w e w' := by
  subst hD
  exact inDegs_impl _ _ _ _ _ _ g.2.1
set_option maxRecDepth 100000 in
set_option maxHeartbeats 1600000 in
theorem inDegs_spec (n : Int) (a : Option Addr) (m cap : Nat) (xs : List EdgeR) (w : World) (h : Rd encEdge 3 w a m cap xs) :
    Calls Tryd.prog 11 #[.agg #[.int .i64 n, .slice a m cap]] w fun e w' => RetL .i64 3 (degG EdgeR.to n xs) w e w' := by
  have hL := Lib.hid h.len
  have hm := h.max
  have hle := h.le
  unfold maxLen at hm
  have hb0 := (Below.refl w.heap.size w).alloc (Nat.le_refl _) (.cells #[.int .i64 n, .slice a m cap] 25)
  cases hg : graphB n xs with
  | false =>
    have HG := Lib.hid hg
    have HR := Lib.hid (degG_no (f := EdgeR.to) hg)
    clear hg
    go_enter Tryd.func11, Tryd.ntmps11
    go_wp2_with fail
    refine (graphOk_spec n a m cap xs _ (h.below hb0 (Nat.le_refl _))).mono ?_
    rintro e w1 ⟨rfl, hb1⟩
    rw [HG.out]
    go_wp2
    go_ret
    rw [HR.out]
    have BB1 := hb0.trans (hb1.mono (by simp))
    exact ⟨none, 0, 0, rfl, (OwnI.nil _ _ _ _), BB1⟩
  | true =>
    obtain ⟨q1, q2, q3, q4⟩ := graphB_yes hg
    obtain ⟨N, rfl⟩ := Int.eq_ofNat_of_zero_le q1
    have HE := Lib.hid q4
    have HR := Lib.hid (degG_yes (f := EdgeR.to) hg)
    have HG := Lib.hid hg
    rw [hL.out] at q3
    clear hg q4
    obtain ⟨i0, hi, hz0, hz1, hz2⟩ := info_parts infoIntS
    go_enter Tryd.func11, Tryd.ntmps11
    go_wp2_with fail
    refine (graphOk_spec _ a m cap xs _ (h.below hb0 (Nat.le_refl _))).mono ?_
    rintro e w1 ⟨rfl, hb1⟩
    rw [HG.out]
    obtain ⟨hc, hf⟩ := bcell hb1
    have c0 : w1.cell? ⟨w.heap.size, 0, none⟩ = some (.int .i64 N) := by rw [hc _ _ (by simp)]; simp [go_sem]
    have c1 : w1.cell? ⟨w.heap.size, 1, none⟩ = some (.slice a m cap) := by rw [hc _ _ (by simp)]; simp [go_sem]
    have BB1 := hb0.trans (hb1.mono (by simp))
    have sz1 : w.heap.size < w1.heap.size := by have := hb1.size; simp at this; omega
    clear hc hf hb1
    go_wp2_with (at_make; refine wpList_make_full _ rfl _ _ 27 rfl w1.heap.size 3 i0 (.int .i64 0) 1 Tryd.underlying27 hi hz0 hz1 _ _ _ _ N rfl rfl rfl rfl ?b1 ?b2 ?b3 ?_)
    case b1 => rw [hz2]; omega
    case b2 => unfold maxLen; omega
    case b3 => simp
    intro w2 hown hgrow
    have hbel := below_grown hgrow (Nat.le_refl _) (by simp)
    have d0 := cell_later hbel c0
    have d1 := cell_later hbel c1
    have hown1 : w2.ownsRow w1.heap.size 3 1 (.slice (some ⟨w1.heap.size, 0, none⟩) N N) N ((tally N (degI EdgeR.to (xs.take 0))).map (.int .i64)) := by
      simpa [toList_madeCells_one, tally, degI, Value.cells] using hown
    have hbig := hown1.lt _ rfl
    clear hown hgrow hi hz0 hz1 hz2 c0 c1
    go_wp2
    go_loopw [15] (fun i wr => ∃ k : Nat, k ≤ m ∧ i = .int .i64 k ∧ wr.ownsRow w1.heap.size 3 1 (.slice (some ⟨w1.heap.size, 0, none⟩) N N) N ((tally N (degI EdgeR.to (xs.take k))).map (.int .i64)) ∧ Below w1.heap.size w1 wr) (fun i _ => m - (intOf i).toNat)
    case atStart => exact ⟨0, Nat.zero_le _, rfl, hown1, hbel⟩
    case round =>
      obtain ⟨k, hk, rfl, ho, hb⟩ := hrel
      clear hown1 hbel d0 d1 hbig
      by_cases hlt : k < m
      · obtain ⟨b1, off1, rfl, hbl1, hc1⟩ := h.edges (by omega)
        have cb : ∀ o, wr.cell? ⟨b1, o, none⟩ = w.cell? ⟨b1, o, none⟩ := fun o => (hb.cell (p := ⟨b1, o, none⟩) (Nat.lt_of_lt_of_le hbl1 BB1.size)).trans (BB1.cell (p := ⟨b1, o, none⟩) hbl1)
        obtain ⟨k0, k1, k2⟩ := hc1 k hlt
        rw [← cb] at k0 k1 k2
        have hkx : k < xs.length := by rw [hL.out]; exact hlt
        obtain ⟨r1, r2, r3, r4, r5, r6⟩ := edgeB_yes (HE.out k hkx)
        have HS := Lib.hid (degI_snoc EdgeR.to xs k hkx)
        have hbig := (ho.lt _ rfl).2
        have hi1 : (k : Int) < (m : Int) := by omega
        clear hc1 cb h
        generalize edgeAt xs k = x at *
        obtain ⟨fr, to, wt⟩ := x
        simp only at k0 k1 k2 r1 r2 r3 r4 r5 r6 HS
        obtain ⟨T, rfl⟩ := Int.eq_ofNat_of_zero_le r3
        have hTN : T < N := by omega
        have hcell := tally_own hTN ho
        have hbd := tally_bd N (degI EdgeR.to (xs.take k)) T
        have hlen : (degI EdgeR.to (xs.take k)).length ≤ 400 := by simp [degI]; omega
        have hset := tally_set N (degI EdgeR.to (xs.take k)) T
        have hfr := ho.frozenAt T
        have st := Lib.hid (ho.stored T (.int .i64 ((tally N (degI EdgeR.to (xs.take k))).getD T 0 + 1))).1
        rw [hset] at st
        have st := Lib.hid st.out
        clear ho
        generalize (tally N (degI EdgeR.to (xs.take k))).getD T 0 = V at *
        have v0 : 0 ≤ V := hbd.1
        have v1 : V ≤ 400 := by omega
        have hbo := fun o => (hb.setCell (p := ⟨w1.heap.size, T, none⟩) (Nat.le_refl _) (.int .i64 (V + 1))).alloc (by rw [size_set]; exact hb.size) o
        clear hbd hset hlen
        go_wp2
        go_roundw
        case rel => exact ⟨k + 1, by omega, by go_num, by rw [HS.out, Int.toNat_natCast]; exact st.out.alloc _, hbo _⟩
        case measure => simp [intOf]; omega
      · obtain rfl : k = m := by omega
        rw [List.take_of_length_le (by rw [hL.out]; exact Nat.le_refl _)] at ho
        go_wp2
        go_ret
        rw [HR.out]
        exact ⟨some ⟨w1.heap.size, 0, none⟩, N, N, rfl, (OwnI.of ho (tally_len _ _) (by omega)).lo_le BB1.size, BB1.trans (hb.mono BB1.size)⟩
theorem inDegs_spec_u (y : GraphR) (D : Int × List EdgeR) (hD : datGraph y = D) (w : World) (g : goodGraph w y) :
    Calls Tryd.prog 11 #[.agg #[.int .i64 y.n, .slice y.edgesA y.edgesN y.edgesC]] w fun e w' => RetL .i64 3 (degG EdgeR.to D.1 D.2) w e w' := by
  subst hD
  exact inDegs_spec _ _ _ _ _ _ g.2.1
end Go.Proofs.YthffmjeodoinlaaDoor

/- Holds of the program and of the reference: what they compute. -/
namespace Go.Proofs.YthffmjeodoinlaaDoor
open Go.RowKit
theorem incB_last : ∀ (zs : List Int) (l m : Int), incB l zs = some m → zs ≠ [] → lastI zs = m := by
  intro zs
  induction zs with
  | nil => intro l m _ h; exact absurd rfl h
  | cons z r ih =>
    intro l m h _
    simp only [incB] at h
    split at h
    · cases h
    · cases r with
      | nil => simp only [incB, Option.some.injEq] at h; subst h; rfl
      | cons y t =>
        have := ih z m h (by simp)
        unfold lastI at *
        simp only [List.length_cons, Nat.add_sub_cancel] at *
        rw [List.getD_cons_succ]
        exact this
theorem cnt_lt : ∀ (zs : List Int) (v : Int), zs ≠ [] → v < lastI zs → cntI zs v < zs.length := by
  intro zs v h hv
  unfold cntI
  rw [List.length_filter_lt_length_iff_exists]
  have hl : zs.length - 1 < zs.length := by have := List.length_pos_iff.2 h; omega
  refine ⟨zs[zs.length - 1], List.getElem_mem hl, ?_⟩
  unfold lastI at hv
  rw [List.getD_eq_getElem?_getD, List.getElem?_eq_getElem hl] at hv
  simp at hv ⊢
  omega
theorem endsB_yes {n : Int} {zs : List Int} (h : endsB n zs = true) : 0 ≤ n ∧ n ≤ 150 ∧ incB 0 zs = some n := by
  simp [endsB] at h
  exact ⟨h.1.1, h.1.2, h.2⟩
theorem iv_in {n v : Int} {zs : List Int} (h : endsB n zs = true) (h0 : 0 ≤ v) (h1 : v < n) : ∃ q : Nat, ivI zs v = (q : Int) ∧ q < zs.length := by
  obtain ⟨_, _, h4⟩ := endsB_yes h
  have hne : zs ≠ [] := by intro e; subst e; simp [incB] at h4; omega
  have hl := incB_last zs 0 n h4 hne
  refine ⟨cntI zs v, ivI_yes zs v (by have := List.length_pos_iff.2 hne; omega) (by omega) (by omega), cnt_lt zs v hne (by omega)⟩
def holdI (es : List Int) (xs : List EdgeR) : List Nat := xs.map fun e => (ivI es e.to).toNat
theorem holdI_snoc (es : List Int) (xs : List EdgeR) (k : Nat) (h : k < xs.length) : holdI es (xs.take (k + 1)) = holdI es (xs.take k) ++ [(ivI es (edgeAt xs k).to).toNat] := by
  unfold holdI
  rw [List.take_succ_eq_append_getElem h, edgeAt_eq xs k h, List.map_append]; rfl
def holdG (n : Int) (xs : List EdgeR) (es : List Int) : List Int := if graphB n xs = true ∧ endsB n es = true then tally es.length (holdI es xs) else []
theorem holdG_no {n : Int} {xs : List EdgeR} {es : List Int} (h : ¬ (graphB n xs = true ∧ endsB n es = true)) : holdG n xs es = [] := if_neg h
theorem holdG_yes {n : Int} {xs : List EdgeR} {es : List Int} (h : graphB n xs = true) (h2 : endsB n es = true) : holdG n xs es = tally es.length (holdI es xs) := if_pos ⟨h, h2⟩
end Go.Proofs.YthffmjeodoinlaaDoor

/- What a span holds: plain. -/
namespace Go.Proofs.YthffmjeodoinlaaDoor
theorem incB_pw : ∀ (zs : List Int) (l m : Int), incB l zs = some m → zs.Pairwise (· < ·) ∧ ∀ z ∈ zs, l < z := by
  intro zs
  induction zs with
  | nil => intro l m _; exact ⟨List.Pairwise.nil, fun z hz => by cases hz⟩
  | cons a r ih =>
    intro l m h
    simp only [incB] at h
    split at h
    · cases h
    · obtain ⟨h1, h2⟩ := ih a m h
      refine ⟨List.Pairwise.cons h2 h1, fun z hz => ?_⟩
      rcases List.mem_cons.1 hz with rfl | hz
      · omega
      · have := h2 z hz; omega
theorem cnt_span {es : List Int} (hp : es.Pairwise (· < ·)) {v : Int} {p : Nat} (h : p < es.length) (h1 : ∀ q, q < p → es.getD q 0 ≤ v) (h2 : v < es.getD p 0) : cntI es v = p := by
  unfold cntI
  have e : es = es.take p ++ es.drop p := (List.take_append_drop p es).symm
  rw [e, List.filter_append]
  have a1 : (es.take p).filter (fun e => decide (e ≤ v)) = es.take p := by
    rw [List.filter_eq_self]
    intro x hx
    obtain ⟨i, hi, rfl⟩ := List.getElem_of_mem hx
    rw [List.length_take] at hi
    have := h1 i (by omega)
    rw [List.getElem_take]
    simp [List.getD, show i < es.length by omega] at this
    simpa using this
  have a2 : (es.drop p).filter (fun e => decide (e ≤ v)) = [] := by
    rw [List.filter_eq_nil_iff]
    intro x hx
    obtain ⟨i, hi, rfl⟩ := List.getElem_of_mem hx
    rw [List.length_drop] at hi
    rw [List.getElem_drop]
    have hp0 : es.getD p 0 = es[p] := by simp [List.getD, h]
    rw [hp0] at h2
    rw [List.pairwise_iff_getElem] at hp
    by_cases hi0 : i = 0
    · subst hi0; simp; omega
    · have := hp p (p + i) h (by omega) (by omega)
      simp; omega
  rw [a1, a2, List.append_nil, List.length_take]
  omega
theorem getD_lt {es : List Int} (hp : es.Pairwise (· < ·)) {i j : Nat} (hij : i < j) (hj : j < es.length) : es.getD i 0 < es.getD j 0 := by
  rw [List.pairwise_iff_getElem] at hp
  have := hp i j (by omega) hj hij
  simp [List.getD, hj, show i < es.length by omega]
  exact this
/-- The span of p: its bounds, and what lies in it. -/
theorem span_facts {n : Int} {es : List Int} (h : endsB n es = true) {p : Nat} (hp : p < es.length) : 0 ≤ (spanI es p).1 ∧ (spanI es p).1 < (spanI es p).2 ∧ (spanI es p).2 ≤ n ∧ ∀ v, (spanI es p).1 ≤ v → v < (spanI es p).2 → ivI es v = (p : Int) := by
  obtain ⟨_, h2, h3⟩ := endsB_yes h
  obtain ⟨hpw, hpos⟩ := incB_pw es 0 n h3
  have hl := incB_last es 0 n h3 (fun e => by rw [e] at hp; simp at hp)
  have hlast : ∀ q, q < es.length → es.getD q 0 ≤ n := by
    intro q hq
    unfold lastI at hl
    by_cases e : q = es.length - 1
    · rw [e, hl]; exact Int.le_refl _
    · have := getD_lt hpw (i := q) (j := es.length - 1) (by omega) (by omega)
      omega
  have hq0 : ∀ q, q < es.length → 0 < es.getD q 0 := by
    intro q hq
    have := hpos es[q] (List.getElem_mem hq)
    simp [List.getD, hq]
    exact this
  have hiv : ∀ v, (∀ q, q < p → es.getD q 0 ≤ v) → v < es.getD p 0 → 0 ≤ v → ivI es v = (p : Int) := by
    intro v k1 k2 k3
    have := hlast p hp
    rw [ivI_yes es v (by omega) (by omega) (by rw [hl]; omega), cnt_span hpw hp k1 k2]
  unfold spanI
  rw [if_neg (by omega)]
  by_cases e : (p : Int) = 0
  · obtain rfl : p = 0 := by omega
    rw [if_pos e]
    refine ⟨Int.le_refl _, hq0 0 hp, hlast 0 hp, fun v k1 k2 => hiv v (fun q hq => by omega) k2 k1⟩
  · rw [if_neg e]
    have e2 : ((p : Int) - 1).toNat = p - 1 := by omega
    have e3 : (p : Int).toNat = p := by omega
    rw [e2, e3]
    have hlt := getD_lt hpw (i := p - 1) (j := p) (by omega) hp
    refine ⟨Int.le_of_lt (hq0 _ (by omega)), hlt, hlast p hp, fun v k1 k2 => hiv v (fun q hq => ?_) k2 (by have := hq0 (p - 1) (by omega); simp only at k1; omega)⟩
    simp only at k1
    by_cases e4 : q = p - 1
    · rw [e4]; exact k1
    · have := getD_lt hpw (i := q) (j := p - 1) (by omega) (by omega)
      omega
/-- A place lies in the span that IntervalOf tells. -/
theorem span_in {n : Int} {es : List Int} (h : endsB n es = true) {v : Int} (h0 : 0 ≤ v) (hv : v < n) {p : Nat} (hp : p < es.length) (hiv : ivI es v = (p : Int)) : (spanI es p).1 ≤ v ∧ v < (spanI es p).2 := by
  obtain ⟨_, h2, h3⟩ := endsB_yes h
  have hl := incB_last es 0 n h3 (fun e => by rw [e] at hp; simp at hp)
  have key : ∀ k, (∀ q, q < k → es.getD q 0 ≤ v) → k < es.length → ∃ q, q < es.length ∧ (∀ j, j < q → es.getD j 0 ≤ v) ∧ v < es.getD q 0 := by
    intro k
    induction hd : es.length - k generalizing k with
    | zero => intro _ hk; omega
    | succ d ih =>
      intro hb hk
      by_cases hc : v < es.getD k 0
      · exact ⟨k, hk, hb, hc⟩
      · by_cases hk2 : k + 1 < es.length
        · exact ih (k + 1) (by omega) (fun q hq => by
            by_cases e : q = k
            · rw [e]; omega
            · exact hb q (by omega)) hk2
        · exfalso
          unfold lastI at hl
          rw [show es.length - 1 = k from by omega] at hl
          omega
  obtain ⟨q, hq, hb, hlt⟩ := key 0 (fun q hq => by omega) (by omega)
  obtain ⟨f1, f2, f3, f4⟩ := span_facts h hq
  have hin : (spanI es q).1 ≤ v ∧ v < (spanI es q).2 := by
    unfold spanI
    rw [if_neg (by omega)]
    by_cases e : (q : Int) = 0
    · obtain rfl : q = 0 := by omega
      rw [if_pos e]
      exact ⟨h0, hlt⟩
    · rw [if_neg e, show ((q : Int) - 1).toNat = q - 1 from by omega, Int.toNat_natCast]
      exact ⟨hb (q - 1) (by omega), hlt⟩
  have hq2 := f4 v hin.1 hin.2
  rw [hiv] at hq2
  obtain rfl : p = q := by omega
  exact hin
end Go.Proofs.YthffmjeodoinlaaDoor

/- Shard in the form that the laws' walks use: szX, toX, eqX, markX, heldX of the statements over a Shard of the call's own. -/
namespace Go.Proofs.YthffmjeodoinlaaDoor
open Go.RowKit
def datShard (y : ShardR) : Int × Int × List SEdgeR := (y.lo, y.hi, y.edges)
def okShard (y : ShardR) : Prop := (In64 y.lo) ∧ (In64 y.hi) ∧ ∀ w0 : World, ∀ z ∈ y.edges, goodSEdge w0 z
structure OwnShard (lo hi : Nat) (w : World) (y : ShardR) : Prop where
  row : OwnS encSEdge 5 60 lo hi w y.edgesA y.edgesN y.edgesC y.edges
  top : hi ≤ w.heap.size
theorem OwnShard.below {lo hi : Nat} {w w' : World} {y : ShardR} (h : OwnShard lo hi w y) (hb : Below w.heap.size w w') : OwnShard lo hi w' y := ⟨h.row.below hb, Nat.le_trans h.top hb.size⟩
theorem OwnShard.win {lo hi lo' hi' : Nat} {w w' : World} {y : ShardR} (h : OwnShard lo hi w y) (hw : Win lo' hi' w w') (hd : hi' ≤ lo ∨ hi ≤ lo') : OwnShard lo hi w' y := ⟨h.row.win hw hd, Nat.le_trans h.top hw.size⟩
theorem OwnShard.lo_le {lo hi lo' : Nat} {w : World} {y : ShardR} (h : OwnShard lo hi w y) (hl : lo' ≤ lo) : OwnShard lo' hi w y := ⟨h.row.lo_le hl, h.top⟩
theorem OwnShard.good {lo hi : Nat} {w : World} {y : ShardR} (h : OwnShard lo hi w y) (g : okShard y) : goodShard w y := ⟨g.1, g.2.1, h.row.rd lenSEdge, g.2.2 w⟩
theorem goodShard_ok {w : World} {y : ShardR} (g : goodShard w y) : okShard y := ⟨g.1, g.2.1, fun _ => g.2.2.2⟩
theorem okShard_dat {y y' : ShardR} (g : okShard y) (h : datShard y' = datShard y) : okShard y' := by
  unfold datShard at h
  simp only [Prod.mk.injEq] at h
  obtain ⟨h0, h1, h2⟩ := h
  unfold okShard
  rw [h0, h1, h2]
  exact g
/-- How much of the budget it takes. -/
def bulkShard (y : ShardR) : Nat := y.edgesN
end Go.Proofs.YthffmjeodoinlaaDoor

/- The kind Shard. -/
namespace Go.Proofs.YthffmjeodoinlaaDoor
open Go.RowKit
def rdShard (w : World) (y : ShardR) : Prop := Rd encSEdge 5 w y.edgesA y.edgesN y.edgesC y.edges
theorem rdShard_below {w w' : World} {y : ShardR} (h : rdShard w y) {B : Nat} (hb : Below B w w') (hB : w.heap.size ≤ B) : rdShard w' y := Rd.below h hb hB
theorem OwnShard.rd {lo hi : Nat} {w : World} {y : ShardR} (h : OwnShard lo hi w y) : rdShard w y := h.row.rd lenSEdge

def cntShard (y : ShardR) : Nat := 5 * y.edgesN
theorem cntShard_le {y : ShardR} {b : Nat} (h : bulkShard y ≤ b) : cntShard y ≤ 1000 * b := by unfold bulkShard at h; unfold cntShard; omega
theorem cntShard_own {lo hi : Nat} {w : World} {y : ShardR} {b : Nat} (_h : OwnShard lo hi w y) (hb : bulkShard y ≤ b) : cntShard y ≤ 1000 * b := cntShard_le hb
theorem goodShard_rd {w : World} {y : ShardR} (g : goodShard w y) : rdShard w y := g.2.2.1
end Go.Proofs.YthffmjeodoinlaaDoor

/- The kind ShardS: rows of Shard, each with a row of its own. -/
namespace Go.Proofs.YthffmjeodoinlaaDoor
open Go.RowKit
def zShard : ShardR := ⟨0, 0, none, 0, 0, []⟩
def atShard (xs : List ShardR) (j : Nat) : ShardR := xs.getD j zShard
theorem atShard_eq (xs : List ShardR) (j : Nat) (h : j < xs.length) : atShard xs j = xs[j] := by simp [atShard, List.getD, h]
theorem lenShard : ∀ x : ShardR, (encShard x).length = 3 := fun _ => rfl
theorem Rd.rowShard {w : World} {a : Option Addr} {n cap : Nat} {xs : List ShardR} (h : Rd encShard 3 w a n cap xs) (hn : 0 < n) :
    ∃ b off, a = some ⟨b, off, none⟩ ∧ b < w.heap.size ∧ ∀ j, j < n → w.cell? ⟨b, off + j * 3, none⟩ = some (.int .i64 (atShard xs j).lo) ∧ w.cell? ⟨b, off + j * 3 + 1, none⟩ = some (.int .i64 (atShard xs j).hi) ∧ w.cell? ⟨b, off + j * 3 + 2, none⟩ = some (.slice (atShard xs j).edgesA (atShard xs j).edgesN (atShard xs j).edgesC) := by
  obtain ⟨b, off, ha, hl, hc⟩ := h.spot hn
  refine ⟨b, off, ha, hl, fun j hj => ?_⟩
  have hj' : j < xs.length := by rw [h.len]; exact hj
  rw [atShard_eq xs j hj']
  exact ⟨hc j hj' 0 (.int .i64 xs[j].lo) rfl, hc j hj' 1 (.int .i64 xs[j].hi) rfl, hc j hj' 2 (.slice xs[j].edgesA xs[j].edgesN xs[j].edgesC) rfl⟩
def slShard (x : ShardR) : Row SEdgeR := ⟨x.edgesA, x.edgesN, x.edgesC, x.edges⟩
def datShardS (y : Row ShardR) : List (Int × Int × List SEdgeR) := y.l.map datShard
def rdShardS (w : World) (y : Row ShardR) : Prop := RdN encShard 3 encSEdge 5 slShard w y
theorem rdShardS_below {w w' : World} {y : Row ShardR} (h : rdShardS w y) {B : Nat} (hb : Below B w w') (hB : w.heap.size ≤ B) : rdShardS w' y := RdN.below h hb hB
structure OwnShardS (lo hi : Nat) (w : World) (y : Row ShardR) : Prop where
  nest : OwnN encShard 3 38 encSEdge 5 60 slShard lo hi w y
theorem OwnShardS.below {lo hi : Nat} {w w' : World} {y : Row ShardR} (h : OwnShardS lo hi w y) (hb : Below w.heap.size w w') : OwnShardS lo hi w' y := ⟨h.nest.below hb⟩
theorem OwnShardS.win {lo hi lo' hi' : Nat} {w w' : World} {y : Row ShardR} (h : OwnShardS lo hi w y) (hw : Win lo' hi' w w') (hd : hi' ≤ lo ∨ hi ≤ lo') : OwnShardS lo hi w' y := ⟨h.nest.win hw hd⟩
theorem OwnShardS.lo_le {lo hi lo' : Nat} {w : World} {y : Row ShardR} (h : OwnShardS lo hi w y) (hl : lo' ≤ lo) : OwnShardS lo' hi w y := ⟨h.nest.lo_le hl⟩
theorem OwnShardS.rd {lo hi : Nat} {w : World} {y : Row ShardR} (h : OwnShardS lo hi w y) : rdShardS w y := h.nest.rd lenShard lenSEdge
def preShard (xs : List ShardR) (j : Nat) : Nat := ((xs.take j).map bulkShard).sum
theorem preShard_succ (xs : List ShardR) (j : Nat) (h : j < xs.length) : preShard xs (j + 1) = preShard xs j + bulkShard (atShard xs j) := by
  unfold preShard
  rw [List.take_succ_eq_append_getElem h, atShard_eq xs j h, List.map_append, List.sum_append]
  simp only [List.map_cons, List.map_nil, List.sum_cons, List.sum_nil, Nat.add_zero]
theorem preShard_le (xs : List ShardR) : ∀ d j, preShard xs j ≤ preShard xs (j + d) := by
  intro d
  induction d with
  | zero => intro j; exact Nat.le_refl _
  | succ d ih =>
    intro j
    refine Nat.le_trans (ih j) ?_
    by_cases h : j + d < xs.length
    · rw [show j + (d + 1) = j + d + 1 from by omega, preShard_succ xs _ h]; omega
    · unfold preShard
      rw [List.take_of_length_le (show xs.length ≤ j + d by omega), List.take_of_length_le (show xs.length ≤ j + (d + 1) by omega)]
      exact Nat.le_refl _
theorem preShard_top (xs : List ShardR) (j : Nat) (h : j < xs.length) : preShard xs j + bulkShard (atShard xs j) ≤ preShard xs xs.length := by
  rw [← preShard_succ xs j h]
  have := preShard_le xs (xs.length - (j + 1)) (j + 1)
  rw [show j + 1 + (xs.length - (j + 1)) = xs.length from by omega] at this
  exact this
def bulkShardS (y : Row ShardR) : Nat := y.n + preShard y.l y.l.length
end Go.Proofs.YthffmjeodoinlaaDoor

/- The kind Graph. -/
namespace Go.Proofs.YthffmjeodoinlaaDoor
open Go.RowKit
def rdGraph (w : World) (y : GraphR) : Prop := Rd encEdge 3 w y.edgesA y.edgesN y.edgesC y.edges
theorem rdGraph_below {w w' : World} {y : GraphR} (h : rdGraph w y) {B : Nat} (hb : Below B w w') (hB : w.heap.size ≤ B) : rdGraph w' y := Rd.below h hb hB
theorem OwnGraph.rd {lo hi : Nat} {w : World} {y : GraphR} (h : OwnGraph lo hi w y) : rdGraph w y := h.row.rd lenEdge

def cntGraph (y : GraphR) : Nat := 3 * y.edgesN
theorem cntGraph_le {y : GraphR} {b : Nat} (h : bulkGraph y ≤ b) : cntGraph y ≤ 1000 * b := by unfold bulkGraph at h; unfold cntGraph; omega
theorem cntGraph_own {lo hi : Nat} {w : World} {y : GraphR} {b : Nat} (_h : OwnGraph lo hi w y) (hb : bulkGraph y ≤ b) : cntGraph y ≤ 1000 * b := cntGraph_le hb
theorem goodGraph_rd {w : World} {y : GraphR} (g : goodGraph w y) : rdGraph w y := g.2.1
end Go.Proofs.YthffmjeodoinlaaDoor

/- Joining shards: the plain function; what holds while the edges are placed. -/
namespace Go.Proofs.YthffmjeodoinlaaDoor
open Go.RowKit
def atSh (D : List (Int × Int × List SEdgeR)) (k : Nat) : Int × Int × List SEdgeR := D.getD k (0, 0, [])
def jLast (D : List (Int × Int × List SEdgeR)) (k : Nat) : Int := if k = 0 then 0 else (atSh D (k - 1)).2.1
def jCnt (D : List (Int × Int × List SEdgeR)) (k : Nat) : Nat := ((D.take k).map fun s => s.2.2.length).sum
def jStep (D : List (Int × Int × List SEdgeR)) (k : Nat) : Bool := shardB (atSh D k).1 (atSh D k).2.1 (atSh D k).2.2 && decide ((atSh D k).1 = jLast D k)
def jAll (D : List (Int × Int × List SEdgeR)) : Bool := (List.range D.length).all (jStep D)
def jHead (n : Int) (D : List (Int × Int × List SEdgeR)) : Bool := decide (0 ≤ n) && (decide (n ≤ 150) && (jAll D && (decide (jLast D D.length = n) && decide (jCnt D D.length ≤ 400))))
def jBad (n : Int) (M : Nat) (e : SEdgeR) (s : List Bool) : Bool := decide (n ≤ e.fr) || (decide ((M : Int) ≤ e.ix) || s.getD e.ix.toNat false)
def plc (n : Int) (M : Nat) : List SEdgeR → List EdgeR → List Bool → Bool × List EdgeR
  | [], g, _ => (true, g)
  | e :: r, g, s => if jBad n M e s then (false, []) else plc n M r (g.set e.ix.toNat ⟨e.fr, e.to, e.wt⟩) (s.set e.ix.toNat true)
def jE (D : List (Int × Int × List SEdgeR)) (k : Nat) : List SEdgeR := (D.drop k).flatMap fun s => s.2.2
def jPlc (n : Int) (D : List (Int × Int × List SEdgeR)) : Bool × List EdgeR := plc n (jCnt D D.length) (jE D 0) (List.replicate (jCnt D D.length) ⟨0, 0, 0⟩) (List.replicate (jCnt D D.length) false)
def joinedF (n : Int) (D : List (Int × Int × List SEdgeR)) : (Int × List EdgeR) × Bool := if jHead n D && (jPlc n D).1 then ((n, (jPlc n D).2), true) else ((0, []), false)
theorem joinedF_head {n : Int} {D : List (Int × Int × List SEdgeR)} (h : jHead n D = false) : joinedF n D = ((0, []), false) := by unfold joinedF; rw [h]; rfl
theorem joinedF_plc {n : Int} {D : List (Int × Int × List SEdgeR)} (h : (jPlc n D).1 = false) : joinedF n D = ((0, []), false) := by unfold joinedF; rw [h, Bool.and_false]; rfl
theorem joinedF_yes {n : Int} {D : List (Int × Int × List SEdgeR)} {g : List EdgeR} (h : jHead n D = true) (h2 : jPlc n D = (true, g)) : joinedF n D = ((n, g), true) := by unfold joinedF; rw [h, h2]; rfl
theorem jLast_succ (D : List (Int × Int × List SEdgeR)) (k : Nat) : jLast D (k + 1) = (atSh D k).2.1 := by unfold jLast; rw [if_neg (by omega), Nat.add_sub_cancel]
theorem jCnt_succ (D : List (Int × Int × List SEdgeR)) (k : Nat) (h : k < D.length) : jCnt D (k + 1) = jCnt D k + (atSh D k).2.2.length := by
  unfold jCnt atSh
  rw [List.take_succ_eq_append_getElem h, List.map_append, List.sum_append]
  simp [List.getD, h]
theorem jCnt_le {D : List (Int × Int × List SEdgeR)} : ∀ k, k ≤ D.length → (∀ i, i < k → jStep D i = true) → jCnt D k ≤ 400 * k := by
  intro k
  induction k with
  | zero => intro _ _; unfold jCnt; simp
  | succ k ih =>
    intro hk hs
    rw [jCnt_succ D k (by omega)]
    have h1 := ih (by omega) (fun i hi => hs i (by omega))
    have h2 := hs k (by omega)
    unfold jStep at h2
    simp only [Bool.and_eq_true] at h2
    have h3 := (shardB_yes h2.1).2.2.2.1
    omega
theorem jAll_no {D : List (Int × Int × List SEdgeR)} {k : Nat} (hk : k < D.length) (h : jStep D k = false) (n : Int) : jHead n D = false := by
  have : jAll D = false := by
    unfold jAll
    rw [List.all_eq_false]
    exact ⟨k, by simpa using hk, by simp [h]⟩
  unfold jHead
  rw [this]
  simp
theorem jAll_yes {D : List (Int × Int × List SEdgeR)} (h : ∀ i, i < D.length → jStep D i = true) : jAll D = true := by
  unfold jAll
  rw [List.all_eq_true]
  intro i hi
  exact h i (by simpa using hi)
def jRest (D : List (Int × Int × List SEdgeR)) (k j : Nat) : List SEdgeR := (atSh D k).2.2.drop j ++ jE D (k + 1)
theorem jRest_zero (D : List (Int × Int × List SEdgeR)) (k : Nat) (h : k < D.length) : jE D k = jRest D k 0 := by
  unfold jRest jE atSh
  rw [List.drop_eq_getElem_cons h, List.flatMap_cons, List.drop_zero]
  simp [List.getD, h]
theorem jRest_cons (D : List (Int × Int × List SEdgeR)) (k j : Nat) (h : j < (atSh D k).2.2.length) : jRest D k j = atSEdge (atSh D k).2.2 j :: jRest D k (j + 1) := by
  unfold jRest
  rw [List.drop_eq_getElem_cons h, List.cons_append, atSEdge_eq _ _ h]
theorem jRest_end (D : List (Int × Int × List SEdgeR)) (k j : Nat) (h : (atSh D k).2.2.length ≤ j) : jRest D k j = jE D (k + 1) := by
  unfold jRest
  rw [List.drop_of_length_le h, List.nil_append]
theorem jE_end (D : List (Int × Int × List SEdgeR)) : jE D D.length = [] := by unfold jE; rw [List.drop_length]; rfl
theorem plc_nil (n : Int) (M : Nat) (g : List EdgeR) (s : List Bool) : plc n M [] g s = (true, g) := rfl
theorem plc_bad {n : Int} {M : Nat} {e : SEdgeR} {r : List SEdgeR} {g : List EdgeR} {s : List Bool} (h : jBad n M e s = true) : plc n M (e :: r) g s = (false, []) := by unfold plc; rw [if_pos h]
theorem plc_ok {n : Int} {M : Nat} {e : SEdgeR} {r : List SEdgeR} {g : List EdgeR} {s : List Bool} (h : jBad n M e s = false) : plc n M (e :: r) g s = plc n M r (g.set e.ix.toNat ⟨e.fr, e.to, e.wt⟩) (s.set e.ix.toNat true) := by
  show (if jBad n M e s then _ else _) = _
  rw [if_neg (by rw [h]; simp)]
/-- Block b holds the graph, and is not frozen. -/
structure BoxG (w : World) (b : Nat) (n : Int) (a : Option Addr) (m c : Nat) : Prop where
  c0 : w.cell? ⟨b, 0, none⟩ = some (.int .i64 n)
  c1 : w.cell? ⟨b, 1, none⟩ = some (.slice a m c)
  f0 : w.frozen? ⟨b, 0, none⟩ = false
  f1 : w.frozen? ⟨b, 1, none⟩ = false
theorem BoxG.lt {w : World} {b : Nat} {n : Int} {a : Option Addr} {m c : Nat} (h : BoxG w b n a m c) : b < w.heap.size := World.block_lt_of_cell? _ _ h.c0
theorem BoxG.keep {w w' : World} {b : Nat} {n : Int} {a : Option Addr} {m c : Nat} (h : BoxG w b n a m c) (hb : w'.heap[b]? = w.heap[b]?) : BoxG w' b n a m c := by
  have c' : ∀ o, w'.cell? ⟨b, o, none⟩ = w.cell? ⟨b, o, none⟩ := fun o => World.cell?_of_block (w := w) (a := ⟨b, o, none⟩) hb
  have f : ∀ o, w'.frozen? ⟨b, o, none⟩ = w.frozen? ⟨b, o, none⟩ := fun o => by unfold World.frozen?; rw [hb]
  exact ⟨(c' 0).trans h.c0, (c' 1).trans h.c1, (f 0).trans h.f0, (f 1).trans h.f1⟩
theorem BoxG.below {w w' : World} {b : Nat} {n : Int} {a : Option Addr} {m c : Nat} (h : BoxG w b n a m c) (hb : Below w.heap.size w w') : BoxG w' b n a m c := h.keep (hb.block b h.lt)
theorem BoxG.new (w : World) (n : Int) (a : Option Addr) (m c : Nat) (t : TypeId) : BoxG (w.alloc (.cells #[.int .i64 n, .slice a m c] t)) w.heap.size n a m c := by
  refine ⟨?_, ?_, ?_, ?_⟩ <;> simp [go_sem]
/-- What holds while the edges are placed. -/
structure JInv (n : Int) (D : List (Int × Int × List SEdgeR)) (w : World) (G Gb S M : Nat) (rest : List SEdgeR) (gs : List EdgeR) (ss : List Bool) (wr : World) : Prop where
  own : wr.ownsRow (w.heap.size + 1) 52 3 (.slice (some ⟨G, 0, none⟩) M M) M (gs.flatMap encEdge)
  seen : wr.ownsRow (w.heap.size + 1) 4 1 (.slice (some ⟨S, 0, none⟩) M M) M (ss.map Value.bool)
  gl : gs.length = M
  sl : ss.length = M
  box : BoxG wr Gb n (some ⟨G, 0, none⟩) M M
  res : BoxG wr w.heap.size 0 none 0 0
  bel : Below w.heap.size w wr
  wg : w.heap.size < G
  gb : G < Gb
  bs : Gb < S
  run : jPlc n D = plc n M rest gs ss
theorem own_later {w w' : World} {b : Nat} {e : TypeId} {sz : Nat} {v : Value} {n : Nat} {xs : List Value} (h : w.ownsRow b e sz v n xs) (hb : Below w.heap.size w w') : w'.ownsRow b e sz v n xs := own_below h hb (Nat.le_refl _)
theorem JInv.later {n : Int} {D : List (Int × Int × List SEdgeR)} {w : World} {G Gb S M : Nat} {rest : List SEdgeR} {gs : List EdgeR} {ss : List Bool} {wr w' : World} (h : JInv n D w G Gb S M rest gs ss wr) (hb : Below wr.heap.size wr w') : JInv n D w G Gb S M rest gs ss w' :=
  ⟨own_later h.own hb, own_later h.seen hb, h.gl, h.sl, h.box.below hb, h.res.below hb, h.bel.trans (hb.mono h.bel.size), h.wg, h.gb, h.bs, h.run⟩
theorem JInv.rest_eq {n : Int} {D : List (Int × Int × List SEdgeR)} {w : World} {G Gb S M : Nat} {rest rest' : List SEdgeR} {gs : List EdgeR} {ss : List Bool} {wr : World} (h : JInv n D w G Gb S M rest gs ss wr) (e : rest = rest') : JInv n D w G Gb S M rest' gs ss wr := by rw [← e]; exact h
theorem flatEdge_set (gs : List EdgeR) (k : Nat) (h : k < gs.length) (x : EdgeR) : (((gs.flatMap encEdge).set (k * 3) (.int .i64 x.fr)).set (k * 3 + 1) (.int .i64 x.to)).set (k * 3 + 2) (.int .i64 x.wt) = (gs.set k x).flatMap encEdge := flat_set encEdge 3 lenEdge gs k h x
theorem JInv.put {n : Int} {D : List (Int × Int × List SEdgeR)} {w : World} {G Gb S M : Nat} {e : SEdgeR} {rest : List SEdgeR} {gs : List EdgeR} {ss : List Bool} {wr : World} (h : JInv n D w G Gb S M (e :: rest) gs ss wr) (hb : jBad n M e ss = false) {ix : Nat} (hx : e.ix = (ix : Int)) (hM : ix < M) :
    JInv n D w G Gb S M rest (gs.set ix ⟨e.fr, e.to, e.wt⟩) (ss.set ix true) ((((wr.setCell ⟨S, ix, none⟩ (.bool true)).setCell ⟨G, ix * 3, none⟩ (.int .i64 e.fr)).setCell ⟨G, ix * 3 + 1, none⟩ (.int .i64 e.to)).setCell ⟨G, ix * 3 + 2, none⟩ (.int .i64 e.wt)) := by
  have hwg := h.wg
  have hgb := h.gb
  have hbs := h.bs
  have w1 := Win.set (lo := S) (hi := S + 1) wr S ix (.bool true) (Nat.le_refl _) (Nat.lt_succ_self _)
  have w2 := ((Win.set (lo := G) (hi := G + 1) (wr.setCell ⟨S, ix, none⟩ (.bool true)) G (ix * 3) (.int .i64 e.fr) (Nat.le_refl _) (Nat.lt_succ_self _)).trans (Win.set _ G (ix * 3 + 1) (.int .i64 e.to) (Nat.le_refl _) (Nat.lt_succ_self _))).trans (Win.set _ G (ix * 3 + 2) (.int .i64 e.wt) (Nat.le_refl _) (Nat.lt_succ_self _))
  have o1 := own_keep h.own (fun g hg => w1.block g (World.ownsRow.lt h.own g hg).2 (by cases hg; dsimp only; omega))
  have s1 := (h.seen.stored ix (.bool true)).1
  have s2 := own_keep s1 (fun g hg => w2.block g (World.ownsRow.lt s1 g hg).2 (by cases hg; dsimp only; omega))
  have o2 := (((o1.stored (ix * 3) (.int .i64 e.fr)).1.stored (ix * 3 + 1) (.int .i64 e.to)).1.stored (ix * 3 + 2) (.int .i64 e.wt)).1
  rw [flatEdge_set gs ix (by rw [h.gl]; exact hM) ⟨e.fr, e.to, e.wt⟩] at o2
  have b1 := h.box.keep (w1.block Gb h.box.lt (by omega))
  have r1 := h.res.keep (w1.block w.heap.size h.res.lt (by omega))
  have hrun := h.run
  rw [plc_ok hb, hx, Int.toNat_natCast] at hrun
  refine ⟨o2, ?_, by rw [List.length_set]; exact h.gl, by rw [List.length_set]; exact h.sl, b1.keep (w2.block Gb b1.lt (by omega)), r1.keep (w2.block w.heap.size r1.lt (by omega)), (h.bel.trans (w1.below (by omega) h.bel.size)).trans (w2.below (by omega) (by rw [size_set]; exact h.bel.size)), hwg, hgb, hbs, hrun⟩
  have e1 : (ss.map Value.bool).set ix (.bool true) = (ss.set ix true).map Value.bool := by rw [List.map_set]
  rw [e1] at s2
  exact s2
/-- A call's end: it returned a graph of its own and a bool. -/
def RetGrK (r : (Int × List EdgeR) × Bool) (w : World) (en : Ending) (w' : World) : Prop := ∃ y : GraphR, en = .returned (.tuple #[.agg #[.int .i64 y.n, .slice y.edgesA y.edgesN y.edgesC], .bool r.2]) ∧ datGraph y = r.1 ∧ OwnGraph w.heap.size w'.heap.size w' y ∧ bulkGraph y ≤ 1048576 ∧ Below w.heap.size w w'
theorem OwnS.nilG (lo : Nat) (w : World) : OwnS encEdge 3 52 lo w.heap.size w none 0 0 [] := ⟨rfl, World.ownsRow_nil _ _ _ _, fun g hg => by simp [Value.ownBlock] at hg, Nat.le_refl _, Nat.zero_le _⟩
theorem RetGrK.zero {w w' : World} (hb : Below w.heap.size w w') : RetGrK ((0, []), false) w (.returned (.tuple #[.agg #[.int .i64 0, .slice none 0 0], .bool false])) w' :=
  ⟨⟨0, none, 0, 0, []⟩, rfl, rfl, ⟨OwnS.nilG _ _, Nat.le_refl _⟩, Nat.zero_le _, hb⟩
theorem put2_win (w : World) (b : Nat) (u0 u1 : Value) : Win b (b + 1) w ((w.setCell ⟨b, 0, none⟩ u0).setCell ⟨b, 1, none⟩ u1) := (Win.set w b 0 u0 (Nat.le_refl _) (Nat.lt_succ_self _)).trans (Win.set _ b 1 u1 (Nat.le_refl _) (Nat.lt_succ_self _))
theorem JInv.fin {n : Int} {D : List (Int × Int × List SEdgeR)} {w : World} {G Gb S M : Nat} {gs : List EdgeR} {ss : List Bool} {wr : World} (h : JInv n D w G Gb S M [] gs ss wr) (hh : jHead n D = true) (hM : M ≤ 400) :
    RetGrK (joinedF n D) w (.returned (.tuple #[.agg #[.int .i64 n, .slice (some ⟨G, 0, none⟩) M M], .bool true])) ((wr.setCell ⟨w.heap.size, 0, none⟩ (.int .i64 n)).setCell ⟨w.heap.size, 1, none⟩ (.slice (some ⟨G, 0, none⟩) M M)) := by
  have hw := put2_win wr w.heap.size (.int .i64 n) (.slice (some ⟨G, 0, none⟩) M M)
  have hwg := h.wg
  rw [joinedF_yes hh (by rw [h.run, plc_nil])]
  have ho := own_keep h.own (fun g hg => hw.block g (World.ownsRow.lt h.own g hg).2 (by cases hg; dsimp only; omega))
  exact ⟨⟨n, some ⟨G, 0, none⟩, M, M, gs⟩, rfl, rfl, ⟨(OwnS.of ho h.gl (by omega)).lo_le (by omega), Nat.le_refl _⟩, (by unfold bulkGraph; simp only; omega), h.bel.trans (hw.below (Nat.le_refl _) h.bel.size)⟩
end Go.Proofs.YthffmjeodoinlaaDoor

/- Rows of integers as rows of one-cell elements (OwnS). Nothing of the program but the names. -/
namespace Go.Proofs.YthffmjeodoinlaaDoor
open Go.RowKit
theorem OwnI.toS {k : IntKind} {e : TypeId} {lo hi : Nat} {w : World} {a : Option Addr} {n cap : Nat} {zs : List Int} (h : OwnI k e lo hi w a n cap zs) : OwnS (encI k) 1 e lo hi w a n cap zs :=
  ⟨h.len, by rw [flat_encI]; exact h.own, h.lt, h.top, h.small⟩
theorem OwnS.toI {k : IntKind} {e : TypeId} {lo hi : Nat} {w : World} {a : Option Addr} {n cap : Nat} {zs : List Int} (h : OwnS (encI k) 1 e lo hi w a n cap zs) : OwnI k e lo hi w a n cap zs :=
  ⟨h.len, by rw [← flat_encI]; exact h.own, h.lt, h.top, h.small⟩
end Go.Proofs.YthffmjeodoinlaaDoor

/- The kind IntS: rows of Int. -/
namespace Go.Proofs.YthffmjeodoinlaaDoor
open Go.RowKit
def datIntS (y : Row Int) : List Int := y.l
def rdIntS (w : World) (y : Row Int) : Prop := Rd (encI .i64) 1 w y.a y.n y.c y.l
theorem rdIntS_below {w w' : World} {y : Row Int} (h : rdIntS w y) {B : Nat} (hb : Below B w w') (hB : w.heap.size ≤ B) : rdIntS w' y := Rd.below h hb hB
structure OwnIntS (lo hi : Nat) (w : World) (y : Row Int) : Prop where
  row : OwnS (encI .i64) 1 3 lo hi w y.a y.n y.c y.l
theorem OwnIntS.below {lo hi : Nat} {w w' : World} {y : Row Int} (h : OwnIntS lo hi w y) (hb : Below w.heap.size w w') : OwnIntS lo hi w' y := ⟨h.row.below hb⟩
theorem OwnIntS.win {lo hi lo' hi' : Nat} {w w' : World} {y : Row Int} (h : OwnIntS lo hi w y) (hw : Win lo' hi' w w') (hd : hi' ≤ lo ∨ hi ≤ lo') : OwnIntS lo hi w' y := ⟨h.row.win hw hd⟩
theorem OwnIntS.lo_le {lo hi lo' : Nat} {w : World} {y : Row Int} (h : OwnIntS lo hi w y) (hl : lo' ≤ lo) : OwnIntS lo' hi w y := ⟨h.row.lo_le hl⟩
theorem OwnIntS.rd {lo hi : Nat} {w : World} {y : Row Int} (h : OwnIntS lo hi w y) : rdIntS w y := h.row.rd (fun _ => rfl)
def bulkIntS (y : Row Int) : Nat := y.n
def cntIntS (y : Row Int) : Nat := y.n
theorem cntIntS_le {y : Row Int} {b : Nat} (h : bulkIntS y ≤ b) : cntIntS y ≤ 1000 * b := by unfold bulkIntS at h; unfold cntIntS; omega
theorem cntIntS_own {lo hi : Nat} {w : World} {y : Row Int} {b : Nat} (_h : OwnIntS lo hi w y) (hb : bulkIntS y ≤ b) : cntIntS y ≤ 1000 * b := cntIntS_le hb
end Go.Proofs.YthffmjeodoinlaaDoor

/- ShardOk of the reference: what it computes. -/
namespace Go.Proofs.YthffmjeodoinlaaDoor
open Go.RowKit
end Go.Proofs.YthffmjeodoinlaaDoor

/- ShardOk of the program and of the reference. -/

/- ShardOk in the form that the law's walk uses. -/
namespace Go.Proofs.YthffmjeodoinlaaDoor
open Go.RowKit
theorem shardOk_impl_u (y : ShardR) (D : Int × Int × List SEdgeR) (hD : datShard y = D) (w : World) (g : goodShard w y) :
    Calls Tryd.prog 13 #[.agg #[.int .i64 y.lo, .int .i64 y.hi, .slice y.edgesA y.edgesN y.edgesC]] w fun e w' => e = .returned (.bool (shardB D.1 D.2.1 D.2.2)) ∧ Below w.heap.size w w' := by
  subst hD
  exact shardOk_impl _ _ _ _ _ _ _ g.2.2.1
end Go.Proofs.YthffmjeodoinlaaDoor

/- Joined: what it computes. -/
namespace Go.Proofs.YthffmjeodoinlaaDoor
open Go.RowKit
theorem infoBoolJ : (Tryd.prog.info? 4).map (fun i => (i.zero, i.size, i.bytes)) = some (some (.bool false), 1, 1) := by kernel_rfl
theorem infoEdgeJ : (Tryd.prog.info? 52).map (fun i => (i.zero, i.size, i.bytes)) = some (some (.agg #[.int .i64 0, .int .i64 0, .int .i64 0]), 3, 24) := by kernel_rfl
theorem own_cell3 {w : World} {B : Nat} {e : TypeId} {sz g n cap : Nat} {xs : List Value} (h : w.ownsRow B e sz (.slice (some ⟨g, 0, none⟩) n cap) n xs) {j : Nat} (hj : j < n * sz) : ∃ d, w.cell? ⟨g, j, none⟩ = some d := by
  rw [h.cellAt j hj]
  exact ⟨_, List.getElem?_eq_getElem (by rw [h.1]; exact hj)⟩
theorem jSound {D : List (Int × Int × List SEdgeR)} {k : Nat} (h : jStep D k = true) {j : Nat} (hj : j < (atSh D k).2.2.length) : 0 ≤ (atSEdge (atSh D k).2.2 j).fr ∧ (atSEdge (atSh D k).2.2 j).fr < 150 ∧ 0 ≤ (atSEdge (atSh D k).2.2 j).ix ∧ (atSEdge (atSh D k).2.2 j).ix < 400 := by
  unfold jStep at h
  simp only [Bool.and_eq_true] at h
  have h5 := (shardB_yes h.1).2.2.2.2 j hj
  unfold stepB at h5
  simp only [Bool.and_eq_true] at h5
  have := (sedgeB_yes h5.1).1
  omega
set_option maxRecDepth 100000 in
set_option maxHeartbeats 8000000 in
theorem joined_impl_k (n : Int) (y : Row ShardR) (D : List (Int × Int × List SEdgeR)) (hD : datShardS y = D) (w : World) (g : rdShardS w y) (g0 : In64 n) (hbk : bulkShardS y ≤ 1048576) :
    Calls Tryd.prog 8 #[.int .i64 n, .slice y.a y.n y.c] w fun e w' => RetGrK (joinedF n D) w e w' := by
  obtain ⟨a, m, cap, xs⟩ := y
  obtain ⟨gr, gi⟩ := g
  simp only at gr gi ⊢
  unfold In64 at g0
  have hmx := gr.max
  have hle := gr.le
  unfold maxLen at hmx
  have hmm : m ≤ 1048576 := by unfold bulkShardS at hbk; simp only at hbk; omega
  have hDL : D.length = m := by rw [← hD]; unfold datShardS; rw [List.length_map]; exact gr.len
  have HDL := Lib.hid hDL
  have HAT : Hid (∀ k, k < m → atSh D k = ((atShard xs k).lo, (atShard xs k).hi, (atShard xs k).edges)) := Lib.hid (fun k hk => by
    have hx : k < xs.length := by rw [gr.len]; exact hk
    rw [← hD, atShard_eq xs k hx]
    unfold atSh datShardS
    simp [List.getD, hx, datShard])
  have HIN : Hid (∀ k, k < m → Rd encSEdge 5 w (atShard xs k).edgesA (atShard xs k).edgesN (atShard xs k).edgesC (atShard xs k).edges) := Lib.hid (fun k hk => by
    have hx : k < xs.length := by rw [gr.len]; exact hk
    rw [atShard_eq xs k hx]
    exact gi _ (List.getElem_mem hx))
  clear hD hDL hbk gi
  have hbW := (Below.refl w.heap.size w).alloc (Nat.le_refl _) (.cells #[.int .i64 0, .slice none 0 0] 25)
  have HB0 := Lib.hid (BoxG.new w 0 none 0 0 25)
  have HN : Hid (∀ L : Int, jLast D m = L → True) := Lib.hid (fun _ _ => trivial)
  by_cases hn : 0 ≤ n ∧ n ≤ 150
  · obtain ⟨hn0, hn1⟩ := hn
    go_enter Tryd.func8, Tryd.ntmps8
    go_wp2
    go_loopw [6, 7, 25] (fun l c i wr => ∃ k : Nat, k ≤ m ∧ l = .int .i64 (jLast D k) ∧ c = .int .i64 (jCnt D k : Nat) ∧ i = .int .i64 k ∧ (∀ i, i < k → jStep D i = true) ∧ Below (w.heap.size + 1) (w.alloc (.cells #[.int .i64 0, .slice none 0 0] 25)) wr) (fun _ _ i _ => m - (intOf i).toNat)
    case atStart => exact ⟨0, Nat.zero_le _, rfl, rfl, rfl, (fun i hi => absurd hi (Nat.not_lt_zero i)), Below.refl _ _⟩
    case round =>
      obtain ⟨k, hk, rfl, rfl, rfl, hst, hb⟩ := hrel
      have HST := Lib.hid hst
      have hcb := jCnt_le (D := D) k (by rw [HDL.out]; exact hk) hst
      clear hst
      have BBr := hbW.trans (hb.mono (by simp))
      have HBr := HB0.out.below (hb.mono (by simp))
      by_cases hlt : k < m
      · have hki : (k : Int) < (m : Int) := by omega
        obtain ⟨b1, off1, rfl, hbl1, hc1⟩ := gr.rowShard (by omega)
        obtain ⟨x0, x1, x2⟩ := hc1 k hlt
        have cb : ∀ o, wr.cell? ⟨b1, o, none⟩ = w.cell? ⟨b1, o, none⟩ := fun o => BBr.cell (p := ⟨b1, o, none⟩) hbl1
        rw [← cb] at x0 x1 x2
        have hin := HIN.out k hlt
        have hat := HAT.out k hlt
        have hlen := hin.len
        have hcs := jCnt_succ D k (by rw [HDL.out]; exact hlt)
        have hls := jLast_succ D k
        rw [hat] at hcs hls
        simp only at hcs hls
        rw [hlen] at hcs
        have HCS := Lib.hid hcs
        have HLS := Lib.hid hls
        have hstep : jStep D k = (shardB (atShard xs k).lo (atShard xs k).hi (atShard xs k).edges && decide ((atShard xs k).lo = jLast D k)) := by unfold jStep; rw [hat]
        have HSTEP := Lib.hid hstep
        have hba := (Below.refl wr.heap.size wr).alloc (Nat.le_refl _) (.cells #[.int .i64 (atShard xs k).lo, .int .i64 (atShard xs k).hi, .slice (atShard xs k).edgesA (atShard xs k).edgesN (atShard xs k).edgesC] 38)
        have BBa := BBr.trans (hba.mono BBr.size)
        have HIA := Lib.hid (hin.below BBa (Nat.le_refl _))
        have hNle := hin.le
        have hNmx := hin.max
        unfold maxLen at hNmx
        clear hc1 cb hat hcs hls hstep hlen hin
        generalize hsk : atShard xs k = s at *
        have HSK := Lib.hid hsk
        clear hsk
        obtain ⟨lo, hi, A, N, C, es⟩ := s
        simp only at x0 x1 x2 HCS HLS HSTEP HIA BBa hba hNle hNmx
        generalize hL : jLast D k = L at *
        generalize hC : jCnt D k = CN at *
        have HLL := Lib.hid hL
        have HCN := Lib.hid hC
        clear hL hC
        cases hsb : shardB lo hi es with
        | false =>
          have HSB := Lib.hid hsb
          have HF := Lib.hid (joinedF_head (jAll_no (k := k) (by rw [HDL.out]; exact hlt) (by rw [HSTEP.out, hsb]; rfl) n))
          clear hsb
          go_wp2_with fail
          refine (shardOk_impl lo hi A N C es _ HIA.out).mono ?_
          rintro e w1 ⟨rfl, hb1⟩
          rw [HSB.out]
          have HB1 := HBr.below (hba.trans (hb1.mono hba.size))
          have BB1 := BBa.trans (hb1.mono BBa.size)
          obtain ⟨r0, r1, r2, r3⟩ := HB1
          have hz1 : w.heap.size < w1.heap.size := World.block_lt_of_cell? _ _ r0
          go_wp2
          refine bodyPost_ret (v := .tuple #[.agg #[.int .i64 0, .slice none 0 0], .bool false]) (by simp [results, Tryd.results8, go_sem, r0, r1]) rfl ?_
          rw [HF.out]
          exact RetGrK.zero (BB1.trans ((put2_win w1 w.heap.size _ _).below (Nat.le_refl _) BB1.size))
        | true =>
          have HSB := Lib.hid hsb
          have hNb : N ≤ 400 := by have := (shardB_yes hsb).2.2.2.1; rw [HIA.out.len] at this; exact this
          by_cases hlo : lo = L
          · have HOK : Hid (jStep D k = true) := Lib.hid (by rw [HSTEP.out, hsb, hlo]; simp)
            have hloB : (lo != L) = false := by simp [hlo]
            clear hsb hlo
            go_wp2_with fail
            refine (shardOk_impl lo hi A N C es _ HIA.out).mono ?_
            rintro e w1 ⟨rfl, hb1⟩
            rw [HSB.out]
            have BB1 := BBa.trans (hb1.mono BBa.size)
            have hbn : Below (w.heap.size + 1) (w.alloc (.cells #[.int .i64 0, .slice none 0 0] 25)) w1 := (hb.trans (hba.mono (by have := hb.size; simp at this; omega))).trans (hb1.mono (by have := hb.size; simp at this; simp; omega))
            obtain ⟨hc, hf⟩ := bcell hb1
            have t0 : w1.cell? ⟨wr.heap.size, 0, none⟩ = some (.int .i64 lo) := by rw [hc _ _ (by simp)]; simp [go_sem]
            have t1 : w1.cell? ⟨wr.heap.size, 1, none⟩ = some (.int .i64 hi) := by rw [hc _ _ (by simp)]; simp [go_sem]
            have t2 : w1.cell? ⟨wr.heap.size, 2, none⟩ = some (.slice A N C) := by rw [hc _ _ (by simp)]; simp [go_sem]
            clear hc hf
            go_wp2
            go_roundw
            case rel => exact ⟨k + 1, by omega, by rw [HLS.out], by rw [HCS.out] <;> go_num, by go_num, (fun i hi9 => by
              by_cases e : i = k
              · rw [e]; exact HOK.out
              · exact HST.out i (by omega)), hbn⟩
            case measure => simp [intOf]; omega
          · have HF := Lib.hid (joinedF_head (jAll_no (k := k) (by rw [HDL.out]; exact hlt) (by rw [HSTEP.out, decide_eq_false hlo, Bool.and_false]) n))
            have hloB : (lo != L) = true := by simp [hlo]
            clear hsb hlo
            go_wp2_with fail
            refine (shardOk_impl lo hi A N C es _ HIA.out).mono ?_
            rintro e w1 ⟨rfl, hb1⟩
            rw [HSB.out]
            have HB1 := HBr.below (hba.trans (hb1.mono hba.size))
            have BB1 := BBa.trans (hb1.mono BBa.size)
            obtain ⟨r0, r1, r2, r3⟩ := HB1
            have hz1 : w.heap.size < w1.heap.size := World.block_lt_of_cell? _ _ r0
            obtain ⟨hc, hf⟩ := bcell hb1
            have t0 : w1.cell? ⟨wr.heap.size, 0, none⟩ = some (.int .i64 lo) := by rw [hc _ _ (by simp)]; simp [go_sem]
            clear hc hf
            go_wp2
            refine bodyPost_ret (v := .tuple #[.agg #[.int .i64 0, .slice none 0 0], .bool false]) (by simp [results, Tryd.results8, go_sem, r0, r1]) rfl ?_
            rw [HF.out]
            exact RetGrK.zero (BB1.trans ((put2_win w1 w.heap.size _ _).below (Nat.le_refl _) BB1.size))
      · obtain rfl : k = m := by omega
        by_cases hLn : jLast D k = n
        · by_cases hC : jCnt D k ≤ 400
          · have hh : jHead n D = true := by
              unfold jHead
              rw [HDL.out, hLn, jAll_yes (fun i hi => HST.out i (by rw [← HDL.out]; exact hi)), decide_eq_true hn0, decide_eq_true hn1, decide_eq_true hC]
              simp
            have HH := Lib.hid hh
            have hPl : jPlc n D = plc n (jCnt D k) (jE D 0) (List.replicate (jCnt D k) ⟨0, 0, 0⟩) (List.replicate (jCnt D k) false) := by unfold jPlc; rw [HDL.out]
            have HPL := Lib.hid hPl
            have hLB : (jLast D k != n) = false := by simp [hLn]
            have hcI : ((jCnt D k : Nat) : Int) ≤ 400 := by omega
            obtain ⟨wo, hwo⟩ : ∃ wo : World, wo = wr := ⟨_, rfl⟩
            subst hwo
            clear hh hPl hcb
            generalize hM : jCnt D k = M at *
            generalize hLL : jLast D k = LL at *
            clear hM hLL hLn
            obtain ⟨i0, ji, jz0, jz1, jz2⟩ := info_parts infoEdgeJ
            obtain ⟨k0, ki, kz0, kz1, kz2⟩ := info_parts infoBoolJ
            have hszo : w.heap.size + 1 ≤ wo.heap.size := by have := hb.size; simp at this; omega
            go_wp2_with (at_make; refine wpList_make_full _ rfl _ _ 23 rfl wo.heap.size 52 i0 (.agg #[.int .i64 0, .int .i64 0, .int .i64 0]) 3 Tryd.underlying23 ji jz0 jz1 _ _ _ _ M rfl rfl rfl rfl ?b1 ?b2 ?b3 ?_)
            case b1 => rw [jz2]; omega
            case b2 => unfold maxLen; omega
            case b3 => simp
            intro wA hownA hgrA
            have hA : wA.ownsRow wo.heap.size 52 3 (.slice (some ⟨wo.heap.size, 0, none⟩) M M) M ((List.replicate M (⟨0, 0, 0⟩ : EdgeR)).flatMap encEdge) := by
              have e := made_flat encEdge (⟨0, 0, 0⟩ : EdgeR) (by decide) M 3 rfl
              rw [← e]
              exact hownA
            have hbA := below_grown hgrA (Nat.le_refl _) (by simp)
            have hGA := (hA.lt _ rfl).2
            have HA := Lib.hid hA
            clear hownA hgrA hA
            have hbG := (Below.refl wA.heap.size wA).alloc (Nat.le_refl _) (.cells #[.int .i64 n, .slice (some ⟨wo.heap.size, 0, none⟩) M M] 25)
            have HGB := Lib.hid (BoxG.new wA n (some ⟨wo.heap.size, 0, none⟩) M M 25)
            go_wp2_with (at_make; refine wpList_make_full _ rfl _ _ 61 rfl (wA.heap.size + 1) 4 k0 (.bool false) 1 Tryd.underlying61 ki kz0 kz1 _ _ _ _ M rfl rfl rfl rfl ?b4 ?b5 ?b6 ?_)
            case b4 => first | omega | (rw [kz2]; omega)
            case b5 => unfold maxLen; omega
            intro wB hownB hgrB
            have hB : wB.ownsRow (wA.heap.size + 1) 4 1 (.slice (some ⟨wA.heap.size + 1, 0, none⟩) M M) M ((List.replicate M false).map Value.bool) := by
              simpa [toList_madeCells_one, Value.cells] using hownB
            have hbB := below_grown hgrB (Nat.le_refl _) (by simp)
            have HI0 : Hid (JInv n D w wo.heap.size wA.heap.size (wA.heap.size + 1) M (jE D 0) (List.replicate M ⟨0, 0, 0⟩) (List.replicate M false) wB) :=
              Lib.hid ⟨own_base (own_below (own_later HA.out hbG) hbB (Nat.le_refl _)) hszo, own_base hB (by omega), List.length_replicate, List.length_replicate, HGB.out.below hbB, ((HBr.below hbA).below hbG).below hbB, (((BBr.trans (hbA.mono BBr.size)).trans (hbG.mono (by omega))).trans (hbB.mono (by simp; omega))), by omega, hGA, by omega, HPL.out⟩
            clear hownB hgrB hB hbB hbG hbA HGB HA
            have hszB : wA.heap.size + 1 < wB.heap.size := (HI0.out.seen.lt _ rfl).2
            obtain ⟨z0, z1, _, _⟩ := HI0.out.box
            go_wp2
            go_loopw [63] (fun i wv => ∃ (q : Nat) (gs : List EdgeR) (ss : List Bool), q ≤ k ∧ i = .int .i64 q ∧ Hid (JInv n D w wo.heap.size wA.heap.size (wA.heap.size + 1) M (jE D q) gs ss wv)) (fun i _ => k - (intOf i).toNat)
            case atStart => exact ⟨0, _, _, Nat.zero_le _, rfl, HI0⟩
            case round =>
              obtain ⟨q, gs, ss, hq, rfl, HI⟩ := hrel
              obtain ⟨wu, hwu⟩ : ∃ wu : World, wu = wr := ⟨_, rfl⟩
              subst hwu
              have BBu := HI.out.bel
              by_cases hqk : q < k
              · have hqi : (q : Int) < (k : Int) := by omega
                obtain ⟨b1, off1, rfl, hbl1, hc1⟩ := gr.rowShard (by omega)
                obtain ⟨x0, x1, x2⟩ := hc1 q hqk
                have cb : ∀ o, wu.cell? ⟨b1, o, none⟩ = w.cell? ⟨b1, o, none⟩ := fun o => BBu.cell (p := ⟨b1, o, none⟩) hbl1
                rw [← cb] at x0 x1 x2
                have HIQ := Lib.hid (HIN.out q hqk)
                have HATQ := Lib.hid (HAT.out q hqk)
                have HSQ := Lib.hid (HST.out q hqk)
                clear hc1 cb
                generalize atShard xs q = s at *
                obtain ⟨lo, hi, A, N, C, es⟩ := s
                simp only at x0 x1 x2 HIQ HATQ
                have hNlen := HIQ.out.len
                have HNL := Lib.hid hNlen
                have hNle := HIQ.out.le
                have hNmx := HIQ.out.max
                unfold maxLen at hNmx
                clear hNlen
                have hes : (atSh D q).2.2 = es := by rw [HATQ.out]
                have HES := Lib.hid hes
                have hba := (Below.refl wu.heap.size wu).alloc (Nat.le_refl _) (.cells #[.int .i64 lo, .int .i64 hi, .slice A N C] 38)
                have HIA0 : Hid (JInv n D w wo.heap.size wA.heap.size (wA.heap.size + 1) M (jRest D q 0) gs ss (wu.alloc (.cells #[.int .i64 lo, .int .i64 hi, .slice A N C] 38))) := Lib.hid ((HI.out.later hba).rest_eq (jRest_zero D q (by rw [HDL.out]; exact hqk)))
                clear hba hes
                go_wp2
                go_loopw [70] (fun i wv => ∃ (j : Nat) (gs : List EdgeR) (ss : List Bool), j ≤ N ∧ i = .int .i64 j ∧ Hid (JInv n D w wo.heap.size wA.heap.size (wA.heap.size + 1) M (jRest D q j) gs ss wv)) (fun i _ => N - (intOf i).toNat)
                case atStart => exact ⟨0, gs, ss, Nat.zero_le _, rfl, HIA0⟩
                case round =>
                  clear HI HIA0 x0 x1 x2
                  obtain ⟨j, gs, ss, hj, rfl, HI⟩ := hrel
                  obtain ⟨wv, hwv⟩ : ∃ wv : World, wv = wr := ⟨_, rfl⟩
                  subst hwv
                  by_cases hjN : j < N
                  · have hjl : j < (atSh D q).2.2.length := by rw [HES.out, HNL.out]; exact hjN
                    have hsd := jSound HSQ.out hjl
                    have HRC := Lib.hid (jRest_cons D q j hjl)
                    rw [HES.out] at hsd HRC
                    clear hjl
                    obtain ⟨b2, off2, rfl, hbl2, hc2⟩ := HIQ.out.rowSEdge (by omega)
                    obtain ⟨y0, y1, y2, y3, y4⟩ := hc2 j hjN
                    have cb : ∀ o, wv.cell? ⟨b2, o, none⟩ = w.cell? ⟨b2, o, none⟩ := fun o => HI.out.bel.cell (p := ⟨b2, o, none⟩) hbl2
                    rw [← cb] at y0 y1 y2 y3 y4
                    clear hc2 cb
                    generalize atSEdge es j = e at *
                    obtain ⟨fr, to, wt, ixx, vl⟩ := e
                    simp only at y0 y1 y2 y3 y4 hsd
                    obtain ⟨f0, f1, ix0, ix1⟩ := hsd
                    obtain ⟨ix, rfl⟩ := Int.eq_ofNat_of_zero_le ix0
                    have hji : (j : Int) < (N : Int) := by omega
                    by_cases c1 : n ≤ fr
                    · have HBAD : Hid (jBad n M ⟨fr, to, wt, (ix : Int), vl⟩ ss = true) := Lib.hid (by unfold jBad; simp [c1])
                      have HF := Lib.hid (joinedF_plc (n := n) (D := D) (by rw [HI.out.run, HRC.out, plc_bad HBAD.out]))
                      obtain ⟨r0, r1, r2, r3⟩ := HI.out.res
                      have hzr := HI.out.res.lt
                      go_wp2
                      refine bodyPost_ret (v := .tuple #[.agg #[.int .i64 0, .slice none 0 0], .bool false]) (by simp [results, Tryd.results8, go_sem, hzr, r0, r1]) rfl ?_
                      rw [HF.out]
                      exact RetGrK.zero ((HI.out.bel.trans ((put2_win wv w.heap.size _ _).below (Nat.le_refl _) HI.out.bel.size)).alloc (by simp only [size_set]; exact HI.out.bel.size) _)
                    · have c1' : fr < n := by omega
                      clear c1
                      by_cases c2 : ix < M
                      · have c2i : (ix : Int) < (M : Int) := by omega
                        have hsn : wv.cell? ⟨wA.heap.size + 1, ix, none⟩ = some (.bool (ss.getD ix false)) := by
                          rw [HI.out.seen.cellAt ix (by omega), List.getElem?_map]
                          have : ix < ss.length := by rw [HI.out.sl]; exact c2
                          simp [List.getD, this]
                        have hzS := (HI.out.seen.lt _ rfl).2
                        obtain ⟨bs, hbs⟩ : ∃ bs, bs = ss.getD ix false := ⟨_, rfl⟩
                        rw [← hbs] at hsn
                        cases bs with
                        | true =>
                          have HBAD : Hid (jBad n M ⟨fr, to, wt, (ix : Int), vl⟩ ss = true) := Lib.hid (by unfold jBad; simp only [Int.toNat_natCast]; rw [← hbs]; simp)
                          clear hbs
                          have HF := Lib.hid (joinedF_plc (n := n) (D := D) (by rw [HI.out.run, HRC.out, plc_bad HBAD.out]))
                          obtain ⟨r0, r1, r2, r3⟩ := HI.out.res
                          have hzr := HI.out.res.lt
                          go_wp2
                          refine bodyPost_ret (v := .tuple #[.agg #[.int .i64 0, .slice none 0 0], .bool false]) (by simp [results, Tryd.results8, go_sem, hzr, r0, r1]) rfl ?_
                          rw [HF.out]
                          exact RetGrK.zero ((HI.out.bel.trans ((put2_win wv w.heap.size _ _).below (Nat.le_refl _) HI.out.bel.size)).alloc (by simp only [size_set]; exact HI.out.bel.size) _)
                        | false =>
                          have hgood : jBad n M ⟨fr, to, wt, (ix : Int), vl⟩ ss = false := by
                            unfold jBad
                            simp only [Int.toNat_natCast]
                            rw [← hbs, decide_eq_false (by omega), decide_eq_false (by omega)]
                            rfl
                          have HNX := Lib.hid ((((HI.out.rest_eq HRC.out).put hgood rfl c2).later ((Below.refl _ _).alloc (Nat.le_refl _) (.cells #[.int .i64 fr, .int .i64 to, .int .i64 wt, .int .i64 (ix : Int), .int .i64 vl] 60))))
                          have hfs := HI.out.seen.frozenAt ix
                          have hf0 := HI.out.own.frozenAt (ix * 3)
                          have hf1 := HI.out.own.frozenAt (ix * 3 + 1)
                          have hf2 := HI.out.own.frozenAt (ix * 3 + 2)
                          have hxl : ix < gs.length := by rw [HI.out.gl]; exact c2
                          obtain ⟨d0, hd0⟩ : ∃ d, wv.cell? ⟨wo.heap.size, ix * 3, none⟩ = some d := own_cell3 HI.out.own (by omega)
                          obtain ⟨d1, hd1⟩ : ∃ d, wv.cell? ⟨wo.heap.size, ix * 3 + 1, none⟩ = some d := own_cell3 HI.out.own (by omega)
                          obtain ⟨d2, hd2⟩ : ∃ d, wv.cell? ⟨wo.heap.size, ix * 3 + 2, none⟩ = some d := own_cell3 HI.out.own (by omega)
                          obtain ⟨z0, z1, _, _⟩ := HI.out.box
                          have hzG := HI.out.box.lt
                          have hzE := (HI.out.own.lt _ rfl).2
                          clear hgood hbs hxl
                          go_wp2
                          go_roundw
                          case rel => exact ⟨j + 1, _, _, by omega, by go_num, HNX⟩
                          case measure => simp [intOf]; omega
                      · have HBAD : Hid (jBad n M ⟨fr, to, wt, (ix : Int), vl⟩ ss = true) := Lib.hid (by unfold jBad; rw [decide_eq_true (show (M : Int) ≤ (ix : Int) by omega)]; simp)
                        have c2i : (M : Int) ≤ (ix : Int) := by omega
                        clear c2
                        have HF := Lib.hid (joinedF_plc (n := n) (D := D) (by rw [HI.out.run, HRC.out, plc_bad HBAD.out]))
                        obtain ⟨r0, r1, r2, r3⟩ := HI.out.res
                        have hzr := HI.out.res.lt
                        go_wp2
                        refine bodyPost_ret (v := .tuple #[.agg #[.int .i64 0, .slice none 0 0], .bool false]) (by simp [results, Tryd.results8, go_sem, hzr, r0, r1]) rfl ?_
                        rw [HF.out]
                        exact RetGrK.zero ((HI.out.bel.trans ((put2_win wv w.heap.size _ _).below (Nat.le_refl _) HI.out.bel.size)).alloc (by simp only [size_set]; exact HI.out.bel.size) _)
                  · obtain rfl : j = N := by omega
                    have HNX := Lib.hid (HI.out.rest_eq (jRest_end D q j (by rw [HES.out, HNL.out]; exact Nat.le_refl _)))
                    go_wp2
                    go_roundw
                    case rel => exact ⟨q + 1, gs, ss, by omega, by go_num, HNX⟩
                    case measure => simp [intOf]; omega
              · obtain rfl : q = k := by omega
                have hE0 : jE D q = [] := by rw [← HDL.out]; exact jE_end D
                have HFI := Lib.hid ((HI.out.rest_eq hE0).fin HH.out hC)
                clear hE0
                obtain ⟨r0, r1, r2, r3⟩ := HI.out.res
                obtain ⟨z0, z1, _, _⟩ := HI.out.box
                have hzr := HI.out.res.lt
                go_wp2
                refine bodyPost_ret (v := .tuple #[.agg #[.int .i64 n, .slice (some ⟨wo.heap.size, 0, none⟩) M M], .bool true]) (by simp [results, Tryd.results8, go_sem, r0, r1]) rfl ?_
                exact HFI.out
          · have HF := Lib.hid (joinedF_head (n := n) (D := D) (by unfold jHead; rw [HDL.out, decide_eq_false hC]; simp))
            have hLB : (jLast D k != n) = false := by simp [hLn]
            have hcI : 400 < ((jCnt D k : Nat) : Int) := by omega
            clear hC hLn
            obtain ⟨r0, r1, r2, r3⟩ := HBr
            have hz1 : w.heap.size < wr.heap.size := World.block_lt_of_cell? _ _ r0
            go_wp2
            refine bodyPost_ret (v := .tuple #[.agg #[.int .i64 0, .slice none 0 0], .bool false]) (by simp [results, Tryd.results8, go_sem, r0, r1]) rfl ?_
            rw [HF.out]
            exact RetGrK.zero (BBr.trans ((put2_win wr w.heap.size _ _).below (Nat.le_refl _) BBr.size))
        · have HF := Lib.hid (joinedF_head (n := n) (D := D) (by unfold jHead; rw [HDL.out, decide_eq_false hLn]; simp))
          have hLB : (jLast D k != n) = true := by simp [hLn]
          clear hLn
          obtain ⟨r0, r1, r2, r3⟩ := HBr
          have hz1 : w.heap.size < wr.heap.size := World.block_lt_of_cell? _ _ r0
          go_wp2
          refine bodyPost_ret (v := .tuple #[.agg #[.int .i64 0, .slice none 0 0], .bool false]) (by simp [results, Tryd.results8, go_sem, r0, r1]) rfl ?_
          rw [HF.out]
          exact RetGrK.zero (BBr.trans ((put2_win wr w.heap.size _ _).below (Nat.le_refl _) BBr.size))
  · have HF : Hid (joinedF n D = ((0, []), false)) := Lib.hid (joinedF_head (by unfold jHead; by_cases h1 : 0 ≤ n <;> by_cases h2 : n ≤ 150 <;> simp [h1, h2] <;> omega))
    by_cases h0 : 0 ≤ n
    · have h1 : 150 < n := by omega
      clear hn
      go_enter Tryd.func8, Tryd.ntmps8
      go_wp2
      refine bodyPost_ret (v := .tuple #[.agg #[.int .i64 0, .slice none 0 0], .bool false]) (by simp [results, Tryd.results8, go_sem]) rfl ?_
      rw [HF.out]
      exact RetGrK.zero hbW
    · have h1 : n < 0 := by omega
      clear hn
      go_enter Tryd.func8, Tryd.ntmps8
      go_wp2
      refine bodyPost_ret (v := .tuple #[.agg #[.int .i64 0, .slice none 0 0], .bool false]) (by simp [results, Tryd.results8, go_sem]) rfl ?_
      rw [HF.out]
      exact RetGrK.zero hbW
end Go.Proofs.YthffmjeodoinlaaDoor

/- Texts: cut at a byte, decimal numerals, read again. Lists of bytes; no program. -/
namespace Go.Proofs.YthffmjeodoinlaaDoor
open Go.Lib
/-- A text cut at each c. -/
def cutAt (c : UInt8) : List UInt8 → List (List UInt8)
  | [] => [[]]
  | b :: l => if b = c then [] :: cutAt c l else match cutAt c l with
    | [] => [[b]]
    | p :: r => (b :: p) :: r
theorem cutAt_ne (c : UInt8) : ∀ l, cutAt c l ≠ []
  | [] => by simp [cutAt]
  | b :: l => by
    unfold cutAt
    split
    · simp
    · split <;> simp
theorem cutAt_hit {c : UInt8} : ∀ {p : List UInt8} (r : List UInt8), (∀ x ∈ p, x ≠ c) → cutAt c (p ++ c :: r) = p :: cutAt c r
  | [], r, _ => by simp [cutAt]
  | b :: p, r, h => by
    have hb := h b (by simp)
    have ih := cutAt_hit r (fun x hx => h x (List.mem_cons_of_mem _ hx))
    rw [List.cons_append, cutAt, if_neg hb, ih]
theorem cutAt_none {c : UInt8} : ∀ {p : List UInt8}, (∀ x ∈ p, x ≠ c) → cutAt c p = [p]
  | [], _ => rfl
  | b :: p, h => by
    have hb := h b (by simp)
    have ih := cutAt_none (fun x hx => h x (List.mem_cons_of_mem _ hx))
    rw [cutAt, if_neg hb, ih]
theorem cutAt_len (c : UInt8) : ∀ l, (cutAt c l).length ≤ l.length + 1
  | [] => by simp [cutAt]
  | b :: l => by
    have ih := cutAt_len c l
    unfold cutAt
    split
    · simp; omega
    · split
      · simp
      · rename_i h; rw [h] at ih; simp at ih ⊢; omega
theorem cutAt_mem_len (c : UInt8) : ∀ l, ∀ p ∈ cutAt c l, p.length ≤ l.length
  | [], p, h => by simp [cutAt] at h; subst h; simp
  | b :: l, p, h => by
    have ih := cutAt_mem_len c l
    unfold cutAt at h
    split at h
    · rcases List.mem_cons.1 h with rfl | h
      · simp
      · have := ih p h; simp; omega
    · split at h
      · rw [List.mem_singleton.1 h]; simp
      · rename_i q r e
        rw [e] at ih
        rcases List.mem_cons.1 h with rfl | h
        · have := ih q (by simp); simp; omega
        · have := ih p (List.mem_cons_of_mem _ h); simp; omega
theorem indexByte_cons (b c : UInt8) (l : List UInt8) : index (b :: l) [c] = if b = c then 0 else if index l [c] = -1 then -1 else index l [c] + 1 := by
  rw [index]
  by_cases h : b = c
  · subst h; simp [List.isPrefixOf]
  · simp [List.isPrefixOf, h, Ne.symm h]
theorem splitK_cut (c : UInt8) : ∀ s : List UInt8, splitK [c] 0 (s.count c) s = cutAt c s
  | [] => rfl
  | b :: l => by
    have ih := splitK_cut c l
    have hix := indexByte_cons b c l
    by_cases h : b = c
    · subst h
      rw [if_pos rfl] at hix
      rw [List.count_cons_self, splitK, hix, cutAt, if_pos rfl]
      simp [ih]
    · rw [if_neg h] at hix
      rw [List.count_cons_of_ne (by simpa using h), cutAt, if_neg h, ← ih]
      cases hk : l.count c with
      | zero => simp [splitK]
      | succ k =>
        have hne : index l [c] ≠ -1 := fun e => by
          have := count_miss e
          rw [count_one] at this
          omega
        have hge := index_ge l [c]
        obtain ⟨j, hj⟩ : ∃ j : Nat, index l [c] = j := ⟨(index l [c]).toNat, by omega⟩
        rw [if_neg hne, hj] at hix
        rw [splitK, splitK, hix, hj]
        have e1 : ((j : Int) + 1 == -1) = false := by rw [beq_eq_false_iff_ne]; omega
        have e2 : ((j : Int) == -1) = false := by rw [beq_eq_false_iff_ne]; omega
        have e3 : ((j : Int) + 1).toNat = j + 1 := by omega
        simp [e1, e2, e3]
/-- strings.Split at one byte. -/
theorem splitB_cut (s : ByteArray) (c : UInt8) : (splitB ⟨#[c]⟩ 0 (countB s ⟨#[c]⟩) s).map (·.data.toList) = cutAt c s.data.toList := by
  rw [splitB_data]
  show splitK [c] 0 (count s.data.toList [c]) _ = _
  rw [count_one, splitK_cut]
theorem countB_cut (s : ByteArray) (c : UInt8) : countB s ⟨#[c]⟩ + 1 = (cutAt c s.data.toList).length := by
  rw [← splitB_cut, List.length_map, splitB_all ⟨#[c]⟩ (Nat.le_refl 1) 0 _ s rfl]
/-- The round of a loop that cuts: s is cut from 'u' on; no c stands in u..i. -/
def CutTo (c : UInt8) (s : List UInt8) (out : List (List UInt8)) (u i : Nat) : Prop :=
  u ≤ i ∧ i ≤ s.length ∧ cutAt c s = out ++ cutAt c (s.drop u) ∧ ∀ x ∈ (s.drop u).take (i - u), x ≠ c
theorem CutTo.start (c : UInt8) (s : List UInt8) : CutTo c s [] 0 0 := ⟨Nat.le_refl _, Nat.zero_le _, rfl, by simp⟩
theorem CutTo.split {c : UInt8} {s : List UInt8} {out : List (List UInt8)} {u i : Nat} (h : CutTo c s out u i) (hi : i < s.length) : s.drop u = (s.drop u).take (i - u) ++ s[i] :: s.drop (i + 1) := by
  have e := (List.take_append_drop (i - u) (s.drop u)).symm
  rw [List.drop_drop, show u + (i - u) = i by have := h.1; omega, List.drop_eq_getElem_cons hi] at e
  exact e
theorem CutTo.hit {c : UInt8} {s : List UInt8} {out : List (List UInt8)} {u i : Nat} (h : CutTo c s out u i) (hi : i < s.length) (hc : s[i] = c) : CutTo c s (out ++ [(s.drop u).take (i - u)]) (i + 1) (i + 1) := by
  refine ⟨Nat.le_refl _, hi, ?_, by simp⟩
  have e := h.split hi
  rw [h.2.2.1, e, hc, cutAt_hit _ h.2.2.2]
  rw [List.append_assoc, List.singleton_append, ← hc, ← e]
theorem CutTo.miss {c : UInt8} {s : List UInt8} {out : List (List UInt8)} {u i : Nat} (h : CutTo c s out u i) (hi : i < s.length) (hc : s[i] ≠ c) : CutTo c s out u (i + 1) := by
  refine ⟨by have := h.1; omega, hi, h.2.2.1, fun x hx => ?_⟩
  have hu := h.1
  rw [show i + 1 - u = (i - u) + 1 by omega, List.take_succ_eq_append_getElem (by rw [List.length_drop]; omega)] at hx
  rcases List.mem_append.1 hx with hx | hx
  · exact h.2.2.2 x hx
  · rw [List.mem_singleton.1 hx, List.getElem_drop]
    simp only [show u + (i - u) = i by omega]
    exact hc
theorem CutTo.fin {c : UInt8} {s : List UInt8} {out : List (List UInt8)} {u : Nat} (h : CutTo c s out u s.length) : cutAt c s = out ++ [s.drop u] := by
  rw [h.2.2.1, cutAt_none fun x hx => h.2.2.2 x (by rw [List.take_of_length_le (by rw [List.length_drop]; exact Nat.le_refl _)]; exact hx)]
/-! ### Numerals -/
def digit (c : UInt8) : Prop := 48 ≤ c.toNat ∧ c.toNat ≤ 57
instance (c : UInt8) : Decidable (digit c) := by unfold digit; infer_instance
def valD (s : List UInt8) : Nat := s.foldl (fun a c => a * 10 + (c.toNat - 48)) 0
theorem valD_snoc (s : List UInt8) (c : UInt8) : valD (s ++ [c]) = valD s * 10 + (c.toNat - 48) := by simp [valD, List.foldl_append]
theorem digit_of (d : Nat) (h : d < 10) : digit (UInt8.ofNat (48 + d)) ∧ (UInt8.ofNat (48 + d)).toNat - 48 = d := by
  have e : (UInt8.ofNat (48 + d)).toNat = 48 + d := by rw [UInt8.toNat_ofNat']; omega
  unfold digit
  rw [e]
  omega
theorem decDigits_digit (u : Nat) : ∀ c ∈ decDigits u, digit c := by
  induction u using Nat.strongRecOn with
  | _ u ih =>
    rw [decDigits]
    split
    · intro c hc
      rw [List.mem_singleton.1 hc]
      exact (digit_of u (by assumption)).1
    · intro c hc
      rcases List.mem_append.1 hc with hc | hc
      · exact ih (u / 10) (by omega) c hc
      · rw [List.mem_singleton.1 hc]
        exact (digit_of (u % 10) (by omega)).1
theorem valD_decDigits (u : Nat) : valD (decDigits u) = u := by
  induction u using Nat.strongRecOn with
  | _ u ih =>
    rw [decDigits]
    split
    · rename_i h
      have := (digit_of u h).2
      show 0 * 10 + ((UInt8.ofNat (48 + u)).toNat - 48) = u
      omega
    · rw [valD_snoc, ih (u / 10) (by omega), (digit_of (u % 10) (by omega)).2]
      omega
theorem decDigits_ne (u : Nat) : decDigits u ≠ [] := by
  rw [decDigits]
  split <;> simp
theorem decDigits_len15 (u : Nat) (h : u < 1000000000000000) : (decDigits u).length ≤ 15 := by
  rw [decDigits_length]
  by_cases h15 : nDigits u ≤ 15
  · exact h15
  · have : ∀ (k u : Nat), u < 10 ^ (k + 1) → nDigits u ≤ k + 1 := by
      intro k
      induction k with
      | zero => intro u hu; rw [nDigits_small (by simpa using hu)]; omega
      | succ k ih =>
        intro u hu
        by_cases h : u < 10
        · rw [nDigits_small h]; omega
        · rw [nDigits_big h]
          have := ih (u / 10) (by rw [Nat.pow_succ] at hu; omega)
          omega
    exact this 14 u (by simpa using h)
/-- What NumText says. -/
def numL (n : Int) : List UInt8 := if 0 ≤ n ∧ n ≤ 281474976710655 then decDigits n.toNat else []
theorem numL_nat {u : Nat} (h : u ≤ 281474976710655) : numL (u : Int) = decDigits u := by
  unfold numL
  rw [if_pos (by omega)]
  rfl
theorem numL_big {n : Int} (h : ¬ (0 ≤ n ∧ n ≤ 281474976710655)) : numL n = [] := by unfold numL; rw [if_neg h]
theorem numL_len (n : Int) : (numL n).length ≤ 15 := by
  unfold numL
  split
  · exact decDigits_len15 _ (by omega)
  · simp
theorem numL_digit (n : Int) : ∀ c ∈ numL n, digit c := by
  unfold numL
  split
  · exact decDigits_digit _
  · simp
/-- What TextNum says. -/
def textNumL (s : List UInt8) : Int × Bool :=
  if 1 ≤ s.length ∧ s.length ≤ 15 ∧ (∀ c ∈ s, digit c) ∧ numL (valD s) = s then (valD s, true) else (0, false)
theorem textNumL_num {u : Nat} (h : u ≤ 281474976710655) : textNumL (decDigits u) = ((u : Int), true) := by
  unfold textNumL
  have h0 := decDigits_ne u
  rw [valD_decDigits, if_pos ⟨by cases hd : decDigits u with | nil => exact absurd hd h0 | cons _ _ => simp, decDigits_len15 u (by omega), decDigits_digit u, numL_nat h⟩]
theorem textNumL_yes {s : List UInt8} {n : Int} (h : textNumL s = (n, true)) : ∃ u : Nat, n = u ∧ u ≤ 281474976710655 ∧ s = decDigits u := by
  unfold textNumL at h
  split at h
  · rename_i hc
    obtain ⟨h1, _, _, h4⟩ := hc
    refine ⟨valD s, by injection h with h _; exact h.symm, ?_, ?_⟩
    · refine Decidable.byContradiction fun hn => ?_
      rw [numL_big (by omega)] at h4
      rw [← h4] at h1
      simp at h1
    · have : valD s ≤ 281474976710655 := by
        refine Decidable.byContradiction fun hn => ?_
        rw [numL_big (by omega)] at h4
        rw [← h4] at h1
        simp at h1
      rw [numL_nat this] at h4
      exact h4.symm
  · injection h with _ h
    cases h
theorem textNumL_no {s : List UInt8} {n : Int} (h : textNumL s = (n, false)) : n = 0 := by
  unfold textNumL at h
  split at h
  · injection h with _ h; cases h
  · injection h with h _; exact h.symm
theorem foldD_ge (s : List UInt8) : ∀ a : Nat, a ≤ s.foldl (fun a c => a * 10 + (c.toNat - 48)) a := by
  induction s with
  | nil => intro a; exact Nat.le_refl _
  | cons c s ih => intro a; have := ih (a * 10 + (c.toNat - 48)); simp only [List.foldl_cons]; omega
theorem parse_digits : ∀ (s : List UInt8) (a : Nat), (∀ c ∈ s, digit c) → s.foldl (fun a c => a * 10 + (c.toNat - 48)) a < 1000000000000000000 → parseUint10 a s = .ok (s.foldl (fun a c => a * 10 + (c.toNat - 48)) a)
  | [], a, _, _ => rfl
  | c :: s, a, h, hb => by
    have hc := h c (by simp)
    simp only [List.foldl_cons] at hb ⊢
    have hge := foldD_ge s (a * 10 + (c.toNat - 48))
    rw [parseUint10, if_pos (show 48 ≤ c.toNat ∧ c.toNat ≤ 57 from hc), if_neg (by omega), if_neg (by omega)]
    exact parse_digits s _ (fun x hx => h x (List.mem_cons_of_mem _ hx)) hb
theorem atoi_num {u : Nat} (h : u ≤ 281474976710655) : atoiAll (decDigits u) = .ok (u : Int) := by
  have h0 := decDigits_ne u
  have hd := decDigits_digit u
  have hv := valD_decDigits u
  cases hs : decDigits u with
  | nil => exact absurd hs h0
  | cons c r =>
    rw [hs] at hd hv
    have hc := hd c (by simp)
    unfold digit at hc
    have hm : parseMag (c :: r) = .ok u := by
      unfold parseMag
      rw [if_neg (by simp), parse_digits _ 0 hd (by unfold valD at hv; rw [hv]; omega)]
      unfold valD at hv
      rw [hv]
    unfold atoiAll
    simp only
    rw [if_neg (by omega), hm]
    simp only
    rw [if_neg (by omega), if_neg (by omega), if_neg (by omega)]
theorem textNumL_atoi (s : List UInt8) : textNumL s = match atoiAll s with
    | .ok v => if (0 ≤ v ∧ v ≤ 281474976710655) ∧ numL v = s then (v, true) else (0, false)
    | _ => (0, false) := by
  cases ht : textNumL s with
  | mk n b =>
    cases b with
    | true =>
      obtain ⟨u, rfl, hu, rfl⟩ := textNumL_yes ht
      rw [atoi_num hu]
      simp only
      rw [if_pos ⟨by omega, numL_nat hu⟩]
    | false =>
      obtain rfl := textNumL_no ht
      split
      · rename_i v _
        rw [if_neg]
        rintro ⟨⟨h0, h1⟩, h2⟩
        obtain ⟨u, rfl⟩ := Int.eq_ofNat_of_zero_le h0
        rw [numL_nat (by omega)] at h2
        rw [← h2, textNumL_num (by omega)] at ht
        injection ht with _ ht
        cases ht
      · rfl
end Go.Proofs.YthffmjeodoinlaaDoor

/- What a variable of the library holds stays as it is where only new memory is made. Nothing of the program. -/
namespace Go.Proofs.YthffmjeodoinlaaDoor
open Go.RowKit
theorem var_later {P : Program} {w w' : World} {n : String} {cs : Array Value} {B : Nat} (hb : Below B w w') (hB : w.heap.size ≤ B) (h : w.var? P n = some cs) : w'.var? P n = some cs := by
  unfold World.var? at h ⊢
  cases hg : P.globalNamed n with
  | none => simp [hg] at h
  | some g =>
    simp only [hg, Option.bind_some] at h ⊢
    have hlt : g < w.heap.size := by
      rcases Nat.lt_or_ge g w.heap.size with h' | h'
      · exact h'
      · simp [Array.getElem?_eq_none h'] at h
    rw [hb.block g (Nat.lt_of_lt_of_le hlt hB)]
    exact h
/-- The table of powers of ten. -/
def Pow (P : Program) (w : World) : Prop := Lib.TabIs P w "internal/strconv.uint64pow10" .u64 Lib.pow10Tab
theorem Pow.later {P : Program} {w w' : World} (h : Pow P w) {B : Nat} (hb : Below B w w') (hB : w.heap.size ≤ B) : Pow P w' := var_later hb hB h
theorem Pow.drew {P : Program} {w : World} (h : Pow P w) : Pow P w.drew := h
/-- The two errors that strconv hands on. -/
def Errs (P : Program) (w : World) : Prop := (∃ tp p, w.var? P "strconv.ErrSyntax" = some #[.iface tp p]) ∧ ∃ tp p, w.var? P "strconv.ErrRange" = some #[.iface tp p]
theorem Errs.later {P : Program} {w w' : World} (h : Errs P w) {B : Nat} (hb : Below B w w') (hB : w.heap.size ≤ B) : Errs P w' := by
  obtain ⟨⟨t1, p1, h1⟩, t2, p2, h2⟩ := h
  exact ⟨⟨t1, p1, var_later hb hB h1⟩, t2, p2, var_later hb hB h2⟩
/-- A cell that holds some int. -/
def SomeInt (g : Nat) (w : World) : Prop := ∃ m, w.cell? ⟨g, 0, none⟩ = some (.int .i64 m)
theorem SomeInt.later {g : Nat} {w w' : World} (h : SomeInt g w) {B : Nat} (hb : Below B w w') (hB : w.heap.size ≤ B) : SomeInt g w' := by
  obtain ⟨m, hm⟩ := h
  exact ⟨m, cell_later (hb.mono hB) hm⟩
end Go.Proofs.YthffmjeodoinlaaDoor

/- string(b) of a slice of bytes that can be read; when two such strings are one. Nothing of the program. -/
namespace Go.Proofs.YthffmjeodoinlaaDoor
open Go.RowKit
theorem Rd.str {P : Program} {w : World} {a : Option Addr} {n cap : Nat} {zs : List Int} (h : Rd (encI .u8) 1 w a n cap zs) {src e dst : TypeId} (hs : P.underlying src = some (.slice e)) (he : P.underlying e = some (.int .u8)) (hd : P.underlying dst = some .string) :
    (convert src dst (.slice a n cap)).run P w = .ok (.string (strOfNums zs)) w := by
  cases a with
  | none =>
    have hn : zs = [] := List.eq_nil_of_length_eq_zero (by rw [h.len]; exact (by have h1 := h.nil rfl; have h2 := h.le; omega))
    subst hn
    exact run_convert_bytes_nil w src e hs he n cap dst hd
  | some ad =>
    rcases Nat.eq_zero_or_pos n with h0 | h0
    · subst h0
      have hn : zs = [] := List.eq_nil_of_length_eq_zero h.len
      subst hn
      rw [run_convert_bytes_string w src dst e _ 0 cap hs he hd, run_bytesToString w ad 0 cap [] (by simp [loadCells, loadCellsFrom])]
      rfl
    · obtain ⟨b, off, ha, _, hc⟩ := h.ints h0
      cases ha
      exact run_convert_bytes_arg w src e hs he b off n cap zs h.len hc dst hd
theorem Rd.drewN {α : Type} {enc : α → List Value} {sz : Nat} {w : World} {a : Option Addr} {n cap : Nat} {xs : List α} (h : Rd enc sz w a n cap xs) (q : Nat) : Rd enc sz (w.drewN q) a n cap xs := h.below (below_drewN (Below.refl w.heap.size w) q) (Nat.le_refl _)
theorem Rd.window {k : IntKind} {w : World} {b off n cap : Nat} {zs : List Int} (h : Rd (encI k) 1 w (some ⟨b, off, none⟩) n cap zs) (p m : Nat) (h1 : p ≤ m) (h2 : m ≤ n) : Rd (encI k) 1 w (some ⟨b, off + p, none⟩) (m - p) (cap - p) ((zs.drop p).take (m - p)) := by
  have hl := h.len
  have hc := h.le
  have hm := h.max
  refine ⟨by omega, by omega, by rw [List.length_take, List.length_drop]; omega, (fun hh => by cases hh), fun hn => ?_⟩
  obtain ⟨b', off', ha, hb, hcell⟩ := h.ints (by omega)
  cases ha
  refine ⟨b, off + p, rfl, hb, fun i hi f u hu => ?_⟩
  have hi' : i < m - p := by rw [List.length_take] at hi; omega
  cases f with
  | zero =>
    simp [encI] at hu
    subst hu
    have := hcell (p + i) (by omega)
    rw [show off + p + i * 1 + 0 = off + (p + i) from by omega, this]
    simp [List.getD, show p + i < zs.length from by omega]
  | succ f => simp [encI] at hu
theorem Rd.pre {k : IntKind} {w : World} {b off n cap : Nat} {zs : List Int} (h : Rd (encI k) 1 w (some ⟨b, off, none⟩) n cap zs) (m : Nat) (h2 : m ≤ n) : Rd (encI k) 1 w (some ⟨b, off, none⟩) m cap (zs.take m) := by
  have := h.window 0 m (Nat.zero_le _) h2
  simpa using this
theorem str_inj : ∀ {xs ys : List Int}, (∀ y ∈ xs, In8 y) → (∀ y ∈ ys, In8 y) → strOfNums xs = strOfNums ys → xs = ys := by
  intro xs ys hx hy h
  have h1 := congrArg (fun s : ByteArray => s.data.toList) h
  simp only [strOfNums_data] at h1
  have key : ∀ (xs ys : List Int), (∀ y ∈ xs, In8 y) → (∀ y ∈ ys, In8 y) → (xs.map fun n => UInt8.ofNat n.toNat) = (ys.map fun n => UInt8.ofNat n.toNat) → xs = ys := by
    intro xs
    induction xs with
    | nil => intro ys _ _ h; cases ys with
      | nil => rfl
      | cons y t => simp at h
    | cons x r ih =>
      intro ys hx hy h
      cases ys with
      | nil => simp at h
      | cons y t =>
        simp only [List.map_cons, List.cons.injEq] at h
        have a := hx x (by simp)
        have b := hy y (by simp)
        unfold In8 at a b
        have e := congrArg UInt8.toNat h.1
        simp only [UInt8.toNat_ofNat'] at e
        have : x = y := by omega
        rw [this, ih t (fun z hz => hx z (by simp [hz])) (fun z hz => hy z (by simp [hz])) h.2]
  exact key xs ys hx hy h1
/-- '==' of two such strings, in the walk's spelling. -/
theorem str_eq {xs ys : List Int} (hx : ∀ y ∈ xs, In8 y) (hy : ∀ y ∈ ys, In8 y) : ((strOfNums xs).toList == (strOfNums ys).toList) = decide (xs = ys) := by
  by_cases h : xs = ys
  · subst h; simp
  · rw [decide_eq_false h, beq_eq_false_iff_ne]
    intro e
    apply h
    apply str_inj hx hy
    rw [ByteArray.toList_eq, ByteArray.toList_eq] at e
    have := Array.toList_inj.1 e
    cases hA : strOfNums xs; cases hB : strOfNums ys; simp_all
end Go.Proofs.YthffmjeodoinlaaDoor

/- Strings out of lists of bytes, in the walk's spelling. Nothing of the program. -/
namespace Go.Proofs.YthffmjeodoinlaaDoor
open Go.RowKit
def mkB (l : List UInt8) : ByteArray := ⟨l.toArray⟩
theorem mkB_data (l : List UInt8) : (mkB l).data.toList = l := by simp [mkB]
theorem mkB_of (s : ByteArray) : mkB s.data.toList = s := by cases s; simp [mkB]
theorem mkB_app (a b : List UInt8) : mkB a ++ mkB b = mkB (a ++ b) := by unfold mkB; rw [ByteArray.mk_append_mk]
theorem mkB_size (l : List UInt8) : (mkB l).size = l.length := by simp [mkB, ByteArray.size]
theorem size_data (s : ByteArray) : s.size = s.data.toList.length := by rw [Array.length_toList]; rfl
theorem bs_data {x y : ByteArray} (h : x.data.toList = y.data.toList) : x = y := by rw [← mkB_of x, ← mkB_of y, h]
theorem bs_eq (x y : ByteArray) : (x.toList == y.toList) = decide (x = y) := by
  by_cases h : x = y
  · subst h; simp
  · rw [decide_eq_false h, beq_eq_false_iff_ne]
    intro e
    apply h
    rw [ByteArray.toList_eq, ByteArray.toList_eq] at e
    exact bs_data e
theorem bs_empty (x : ByteArray) : x.toList.isEmpty = decide (x.data.toList = []) := by
  rw [ByteArray.toList_eq]
  cases x.data.toList <;> simp
theorem mkB_inj {a b : List UInt8} (h : mkB a = mkB b) : a = b := by rw [← mkB_data a, ← mkB_data b, h]
theorem strOf_one (x : Int) : strOfNums [x] = mkB [UInt8.ofNat x.toNat] := bs_data (by rw [strOfNums_data, mkB_data]; rfl)
/-- A sum of lengths that is an int, in the walk's spelling. -/
theorem sum_mk {a b : List UInt8} (h : a.length + b.length ≤ 9223372036854775807) : ¬ 9223372036854775807 < (mkB a).size + (mkB b).size := by rw [mkB_size, mkB_size]; omega
theorem sum_mk1 {b : List UInt8} (h : 1 + b.length ≤ 9223372036854775807) : ¬ 9223372036854775807 < 1 + (mkB b).size := by rw [mkB_size]; omega
theorem sum_1mk {b : List UInt8} (h : b.length + 1 ≤ 9223372036854775807) : ¬ 9223372036854775807 < (mkB b).size + 1 := by rw [mkB_size]; omega
theorem lit_mk (c : UInt8) (b : List UInt8) : (⟨#[c]⟩ : ByteArray) ++ mkB b = mkB (c :: b) := mkB_app [c] b
theorem mk_lit (c : UInt8) (b : List UInt8) : mkB b ++ (⟨#[c]⟩ : ByteArray) = mkB (b ++ [c]) := mkB_app b [c]
end Go.Proofs.YthffmjeodoinlaaDoor

/- Rows of strings: the helpers eqStringS, markText, markStringS, heldStringS of the statements. -/
namespace Go.Proofs.YthffmjeodoinlaaDoor
open Go.RowKit
def encS (s : ByteArray) : List Value := [.string s]
theorem lenS : ∀ x : ByteArray, (encS x).length = 1 := fun _ => rfl
theorem flat_encS (xs : List ByteArray) : xs.flatMap encS = xs.map Value.string := by
  induction xs with
  | nil => rfl
  | cons a r ih => simp [encS, List.flatMap_cons] at *; exact ih
def atS (xs : List ByteArray) (j : Nat) : ByteArray := xs.getD j ⟨#[]⟩
theorem atS_eq (xs : List ByteArray) (j : Nat) (h : j < xs.length) : atS xs j = xs[j] := by simp [atS, List.getD, h]
theorem Rd.strs {w : World} {a : Option Addr} {n cap : Nat} {xs : List ByteArray} (h : Rd encS 1 w a n cap xs) (hn : 0 < n) :
    ∃ b off, a = some ⟨b, off, none⟩ ∧ b < w.heap.size ∧ ∀ j, j < n → w.cell? ⟨b, off + j, none⟩ = some (.string (atS xs j)) := by
  obtain ⟨b, off, ha, hl, hc⟩ := h.spot hn
  refine ⟨b, off, ha, hl, fun j hj => ?_⟩
  have hj' : j < xs.length := by rw [h.len]; exact hj
  have := hc j hj' 0 (.string xs[j]) (by simp [encS])
  rw [atS_eq xs j hj']
  simpa using this
theorem take_succS {xs ys : List ByteArray} {k : Nat} (h : xs.take k = ys.take k) (h1 : k < xs.length) (h2 : k < ys.length) (he : atS xs k = atS ys k) : xs.take (k + 1) = ys.take (k + 1) := by
  rw [List.take_succ_eq_append_getElem h1, List.take_succ_eq_append_getElem h2, h]
  rw [atS_eq xs k h1, atS_eq ys k h2] at he
  rw [he]
/-- A digit's byte. -/
def dgU (d : Nat) : UInt8 := UInt8.ofNat (48 + d)
def mtL (k : Nat) (acc : List UInt8) : List UInt8 := if h : k = 0 then acc else mtL (k / 10) (dgU (k % 10) :: acc)
termination_by k
decreasing_by omega
theorem mtL_zero (acc : List UInt8) : mtL 0 acc = acc := by rw [mtL, dif_pos rfl]
theorem mtL_pos {k : Nat} (h : 0 < k) (acc : List UInt8) : mtL k acc = mtL (k / 10) (dgU (k % 10) :: acc) := by rw [mtL, dif_neg (by omega)]
/-- What markText says. -/
def mtext (k : Int) : ByteArray := if k ≤ 0 then mkB [109, 48] else mkB (109 :: mtL k.toNat [])
theorem conv_one {P : Program} {src e dst : TypeId} (hs : P.underlying src = some (.slice e)) (he : P.underlying e = some (.int .u8)) (hd : P.underlying dst = some .string) (w : World) (g cap : Nat) (x : Int) (hc : w.cell? ⟨g, 0, none⟩ = some (.int .u8 x)) :
    (convert src dst (.slice (some ⟨g, 0, none⟩) 1 cap)).run P w = .ok (.string (mkB [UInt8.ofNat x.toNat])) w := by
  rw [← strOf_one]
  exact run_convert_bytes_arg w src e hs he g 0 1 cap [x] rfl (fun j hj => by obtain rfl : j = 0 := by omega
                                                                              simpa using hc) dst hd
end Go.Proofs.YthffmjeodoinlaaDoor

/- The contracts of the library that the walks of this seat (FnShards) call, at this program: laid by the tools of the kit. -/
namespace Go.Proofs
open Go.Shelf
def Tryd.lays156_ren : Go.Shelf.Ren := ⟨fun | 156 => 32 | 165 => 37 | 166 => 38 | 169 => 39 | 240 => 43 | 241 => 44 | 276 => 54 | 277 => 55 | n => n, fun | 31 => 70 | 9 => 9 | 3 => 3 | 4 => 4 | 0 => 0 | 20 => 20 | 72 => 79 | 76 => 83 | 70 => 77 | 37 => 22 | 75 => 82 | 127 => 89 | 164 => 90 | 5 => 5 | 80 => 85 | n => n, fun | n => n⟩
theorem Tryd.lays156 : Go.Proofs.Lays.n156 Tryd.prog Tryd.lays156_ren := {
  mixed := by kernel_rfl
  f156 := Tryd.func32.trans (congrArg some (by kernel_rfl))
  f165 := Tryd.func37.trans (congrArg some (by kernel_rfl))
  f166 := Tryd.func38.trans (congrArg some (by kernel_rfl))
  f169 := Tryd.func39.trans (congrArg some (by kernel_rfl))
  f240 := Tryd.func43.trans (congrArg some (by kernel_rfl))
  f241 := Tryd.func44.trans (congrArg some (by kernel_rfl))
  f276 := Tryd.func54.trans (congrArg some (by kernel_rfl))
  f277 := Tryd.func55.trans (congrArg some (by kernel_rfl))
  t0 := Tryd.underlying0
  a0 := Tryd.isAgg0
  z0 := Tryd.sizeOf0
  v0 := Tryd.zeroValue0
  t3 := Tryd.underlying3
  a3 := Tryd.isAgg3
  z3 := Tryd.sizeOf3
  v3 := Tryd.zeroValue3
  t4 := Tryd.underlying4
  a4 := Tryd.isAgg4
  z4 := Tryd.sizeOf4
  v4 := Tryd.zeroValue4
  t9 := Tryd.underlying9
  a9 := Tryd.isAgg9
  z9 := Tryd.sizeOf9
  v9 := Tryd.zeroValue9
  t20 := Tryd.underlying20
  a20 := Tryd.isAgg20
  z20 := Tryd.sizeOf20
  v20 := Tryd.zeroValue20
  t31 := Tryd.underlying70
  a31 := Tryd.isAgg70
  z31 := Tryd.sizeOf70
  v31 := Tryd.zeroValue70
  t37 := Tryd.underlying22
  a37 := Tryd.isAgg22
  z37 := Tryd.sizeOf22
  v37 := Tryd.zeroValue22
  t70 := Tryd.underlying77
  a70 := Tryd.isAgg77
  z70 := Tryd.sizeOf77
  v70 := Tryd.zeroValue77
  t72 := Tryd.underlying79
  a72 := Tryd.isAgg79
  z72 := Tryd.sizeOf79
  v72 := Tryd.zeroValue79
  t75 := Tryd.underlying82
  a75 := Tryd.isAgg82
  z75 := Tryd.sizeOf82
  v75 := Tryd.zeroValue82
  t76 := Tryd.underlying83
  a76 := Tryd.isAgg83
  z76 := Tryd.sizeOf83
  v76 := Tryd.zeroValue83
  t127 := Tryd.underlying89
  a127 := Tryd.isAgg89
  z127 := Tryd.sizeOf89
  v127 := Tryd.zeroValue89
  t164 := Tryd.underlying90
  a164 := Tryd.isAgg90
  z164 := Tryd.sizeOf90
  v164 := Tryd.zeroValue90 }
theorem Tryd.Builder_Extra_156 : Builder.Extra Tryd.prog Tryd.lays156_ren := {
  sizeBuilder := by kernel_rfl
  liesBuilder := by kernel_rfl
  t5 := Tryd.underlying5
  a5 := Tryd.isAgg5
  z5 := Tryd.sizeOf5
  v5 := Tryd.zeroValue5
  infoByte := by kernel_rfl
  cellsByte := by kernel_rfl
  sizeByte := by kernel_rfl
  neB5 := by decide }
open Go.RowKit in
/-- No element: the empty string; the world is as it was. (Whatever the slice's address and capacity: a nil slice too.) (LAID: no walk: one application.) -/
theorem Tryd.strings_Join_none (a : Option Addr) (c : Nat) (sep : ByteArray) (w : World) :
    Calls Tryd.prog 32 #[.slice a 0 c, .string sep] w fun e w' => e = .returned (.string ⟨#[]⟩) ∧ w' = w := Any.strings_Join_none Tryd.lays156 Tryd.Builder_Extra_156 a c sep w
open Go.RowKit in
/-- strings.Join: "Join concatenates the elements of its first argument to create a single string. The separator string sep is placed between elements in the resulting string.": HOWEVER MANY ELEMENTS. Below the heap's end the world is as it was. (LAID: no walk: one application.) -/
theorem Tryd.strings_Join (bk o c : Nat) (xs : List ByteArray) (sep : ByteArray) (w : World) (hcells : ∀ (j : Nat) x, xs[j]? = some x → w.cell? ⟨bk, o + j, none⟩ = some (.string x)) (hbk : bk < w.heap.size) (hN : xs.length ≤ 140737488355328) (hcap : xs.length ≤ c) (hlen : (Lib.join (xs.map (·.data.toList)) sep.data.toList).length ≤ 140737488355328) :
    Calls Tryd.prog 32 #[.slice (some ⟨bk, o, none⟩) xs.length c, .string sep] w fun e w' => e = .returned (.string ⟨(Lib.join (xs.map (·.data.toList)) sep.data.toList).toArray⟩) ∧ Below w.heap.size w w' := Any.strings_Join Tryd.lays156 Tryd.Builder_Extra_156 bk o c xs sep w hcells hbk hN hcap hlen
def Tryd.laysM171_ren : Go.Shelf.Ren := ⟨fun | 171 => 31 | 243 => 36 | 246 => 42 | 283 => 50 | 284 => 51 | 285 => 52 | 286 => 53 | 129 => 66 | 317 => 75 | 318 => 76 | 319 => 77 | 320 => 78 | 337 => 84 | 338 => 85 | n => n, fun | 3 => 3 | 9 => 9 | 2 => 2 | 4 => 4 | 171 => 102 | 0 => 0 | 53 => 103 | 37 => 22 | 5 => 5 | 173 => 106 | 212 => 125 | 51 => 114 | 20 => 20 | 213 => 126 | 46 => 72 | 232 => 135 | 233 => 136 | n => n, fun | 17 => 0 | 18 => 2 | 19 => 3 | n => n⟩
theorem Tryd.laysM171 : Go.Proofs.LaysM.n171 Tryd.prog Tryd.laysM171_ren := {
  mixed := by kernel_rfl
  f129 := Tryd.func66.trans (congrArg some (by kernel_rfl))
  f171 := Tryd.func31.trans (congrArg some (by kernel_rfl))
  f243 := Tryd.func36.trans (congrArg some (by kernel_rfl))
  f246 := Tryd.func42.trans (congrArg some (by kernel_rfl))
  f283 := Tryd.func50.trans (congrArg some (by kernel_rfl))
  f284 := Tryd.func51.trans (congrArg some (by kernel_rfl))
  f285 := Tryd.func52.trans (congrArg some (by kernel_rfl))
  f286 := Tryd.func53.trans (congrArg some (by kernel_rfl))
  f317 := Tryd.func75.trans (congrArg some (by kernel_rfl))
  f318 := Tryd.func76.trans (congrArg some (by kernel_rfl))
  f319 := Tryd.func77.trans (congrArg some (by kernel_rfl))
  f320 := Tryd.func78.trans (congrArg some (by kernel_rfl))
  f337 := Tryd.func84.trans (congrArg some (by kernel_rfl))
  f338 := Tryd.func85.trans (congrArg some (by kernel_rfl))
  t0 := Tryd.underlying0
  a0 := Tryd.isAgg0
  z0 := Tryd.sizeOf0
  v0 := Tryd.zeroValue0
  t2 := Tryd.underlying2
  a2 := Tryd.isAgg2
  z2 := Tryd.sizeOf2
  v2 := Tryd.zeroValue2
  t3 := Tryd.underlying3
  a3 := Tryd.isAgg3
  z3 := Tryd.sizeOf3
  v3 := Tryd.zeroValue3
  t4 := Tryd.underlying4
  a4 := Tryd.isAgg4
  z4 := Tryd.sizeOf4
  v4 := Tryd.zeroValue4
  t5 := Tryd.underlying5
  a5 := Tryd.isAgg5
  z5 := Tryd.sizeOf5
  v5 := Tryd.zeroValue5
  t9 := Tryd.underlying9
  a9 := Tryd.isAgg9
  z9 := Tryd.sizeOf9
  v9 := Tryd.zeroValue9
  t20 := Tryd.underlying20
  a20 := Tryd.isAgg20
  z20 := Tryd.sizeOf20
  v20 := Tryd.zeroValue20
  t37 := Tryd.underlying22
  a37 := Tryd.isAgg22
  z37 := Tryd.sizeOf22
  v37 := Tryd.zeroValue22
  t46 := Tryd.underlying72
  a46 := Tryd.isAgg72
  z46 := Tryd.sizeOf72
  v46 := Tryd.zeroValue72
  t51 := Tryd.underlying114
  a51 := Tryd.isAgg114
  z51 := Tryd.sizeOf114
  v51 := Tryd.zeroValue114
  t53 := Tryd.underlying103
  a53 := Tryd.isAgg103
  z53 := Tryd.sizeOf103
  v53 := Tryd.zeroValue103
  t171 := Tryd.underlying102
  a171 := Tryd.isAgg102
  z171 := Tryd.sizeOf102
  v171 := Tryd.zeroValue102
  t173 := Tryd.underlying106
  a173 := Tryd.isAgg106
  z173 := Tryd.sizeOf106
  v173 := Tryd.zeroValue106
  t212 := Tryd.underlying125
  a212 := Tryd.isAgg125
  z212 := Tryd.sizeOf125
  v212 := Tryd.zeroValue125
  t213 := Tryd.underlying126
  a213 := Tryd.isAgg126
  z213 := Tryd.sizeOf126
  t232 := Tryd.underlying135
  a232 := Tryd.isAgg135
  z232 := Tryd.sizeOf135
  v232 := Tryd.zeroValue135
  t233 := Tryd.underlying136
  a233 := Tryd.isAgg136
  z233 := Tryd.sizeOf136
  v233 := Tryd.zeroValue136
  g17 := by kernel_rfl
  g18 := by kernel_rfl
  g19 := by kernel_rfl
  i0 := by kernel_rfl
  i2 := by kernel_rfl
  i3 := by kernel_rfl
  i4 := by kernel_rfl
  i5 := by kernel_rfl
  i9 := by kernel_rfl
  i20 := by kernel_rfl
  i37 := by kernel_rfl
  i46 := by kernel_rfl
  i51 := by kernel_rfl
  i53 := by kernel_rfl
  i171 := by kernel_rfl
  i173 := by kernel_rfl
  i212 := by kernel_rfl
  i232 := by kernel_rfl
  i233 := by kernel_rfl
  m17 := by kernel_rfl
  m18 := by kernel_rfl
  m19 := by kernel_rfl }
open Go.RowKit Go.Sort Go.Lib in
/-- strconv.Itoa: "Itoa is equivalent to FormatInt(int64(i), 10).": i's DECIMAL NUMERAL ('Lib.itoa': a '-' where i is negative, then the digits), FOR EVERY int. The world behind the call: the world before it, new blocks behind the heap (the library's 'var a [24]byte'), draws. (LAID: no walk: one application.) -/
theorem Tryd.strconv_Itoa (n : Int) (h0 : -9223372036854775808 ≤ n) (h1 : n ≤ 9223372036854775807) (w : World) (htab : Lib.TabIs Tryd.prog w "internal/strconv.uint64pow10" .u64 Lib.pow10Tab) :
    Calls Tryd.prog 31 #[.int .i64 n] w fun e w' => e = .returned (.string ⟨(Lib.itoa n).toArray⟩) ∧ ∃ k os, w' = grow (w.drewN k) os := Any.strconv_Itoa Tryd.laysM171 n h0 h1 w htab
end Go.Proofs

/- NumText of the program and of the reference: what each call does. -/
namespace Go.Proofs.YthffmjeodoinlaaDoor
open Go.RowKit
theorem numL_step {n : Int} (h0 : 10 ≤ n) (h1 : n ≤ 281474976710655) : numL n = numL (n / 10) ++ [dgU (n % 10).toNat] := by
  obtain ⟨u, rfl⟩ := Int.eq_ofNat_of_zero_le (show 0 ≤ n by omega)
  rw [numL_nat (by omega), show ((u : Int) / 10) = ((u / 10 : Nat) : Int) by omega, numL_nat (by omega), Lib.decDigits, dif_neg (by omega)]
  congr 1
theorem numL_one {n : Int} (h0 : 0 ≤ n) (h1 : n < 10) : numL n = [dgU n.toNat] := by
  obtain ⟨u, rfl⟩ := Int.eq_ofNat_of_zero_le h0
  rw [numL_nat (by omega), Lib.decDigits, dif_pos (by omega)]
  rfl
set_option maxHeartbeats 800000 in
theorem numText_impl (n : Int) (hn : In64 n) (w : World) (ht : Pow Tryd.prog w) :
    Calls Tryd.prog 22 #[.int .i64 n] w fun e w' => e = .returned (.string (mkB (numL n))) ∧ Below w.heap.size w w' := by
  unfold In64 at hn
  by_cases a : 0 ≤ n ∧ n ≤ 281474976710655
  · have HN := Lib.hid (show mkB (numL n) = ⟨(Lib.itoa n).toArray⟩ by unfold numL Lib.itoa; rw [if_pos a, if_neg (by omega)]; rfl)
    have HB := Lib.hid (numB_true a.1 a.2)
    go_enter Tryd.func22, Tryd.ntmps22
    go_wp2_with fail
    refine (isNumber_any n _).mono ?_
    rintro e w1 ⟨rfl, rfl⟩
    rw [HB.out]
    go_wp2_with fail
    refine (Tryd.strconv_Itoa n hn.1 hn.2 _ ht).mono ?_
    rintro e w2 ⟨rfl, k, os, rfl⟩
    go_wp2
    go_ret
    exact ⟨by rw [HN.out]; rfl, Lib.below_grow _ w (Nat.le_refl _) k os⟩
  · have HN := Lib.hid (show mkB (numL n) = ⟨#[]⟩ by rw [numL_big a]; rfl)
    have HB := Lib.hid (numB_false a)
    go_enter Tryd.func22, Tryd.ntmps22
    go_wp2_with fail
    refine (isNumber_any n _).mono ?_
    rintro e w1 ⟨rfl, rfl⟩
    rw [HB.out]
    go_wp2
    go_ret
    exact ⟨by rw [HN.out]; rfl, Below.refl _ _⟩
theorem conv_al {P : Program} {src e dst : TypeId} (hs : P.underlying src = some (.slice e)) (he : P.underlying e = some (.int .u8)) (hd : P.underlying dst = some .string) {wx wa : World} {x : Int} {g : Nat} (hg : wx.heap.size = g) (hb : Below (wx.alloc (.cells #[.int .u8 x] e)).heap.size (wx.alloc (.cells #[.int .u8 x] e)) wa) :
    (convert src dst (.slice (some ⟨g, 0, none⟩) 1 1)).run P wa = .ok (.string (mkB [UInt8.ofNat x.toNat])) wa := by
  subst hg
  exact conv_one hs he hd wa wx.heap.size 1 x (cell_later hb (by simp [go_sem]))
theorem conv_ald {P : Program} {src e dst : TypeId} (hs : P.underlying src = some (.slice e)) (he : P.underlying e = some (.int .u8)) (hd : P.underlying dst = some .string) {wx wa : World} {x : Int} {g : Nat} (hg : wx.heap.size = g) (hb : Below (wx.alloc (.cells #[.int .u8 x] e)).drew.heap.size (wx.alloc (.cells #[.int .u8 x] e)).drew wa) :
    (convert src dst (.slice (some ⟨g, 0, none⟩) 1 1)).run P wa = .ok (.string (mkB [UInt8.ofNat x.toNat])) wa := by
  subst hg
  exact conv_one hs he hd wa wx.heap.size 1 x (cell_later hb (by simp [go_sem]))
theorem kbD {w wx : World} (h : Below w.heap.size w wx) : Below w.heap.size w wx.drew := h.drew
theorem kbA {w wx : World} (o : Obj) (h : Below w.heap.size w wx) : Below w.heap.size w (wx.alloc o) := h.alloc h.size o
theorem kbB {w wx wa : World} (h : Below w.heap.size w wx) (hb : Below wx.heap.size wx wa) : Below w.heap.size w wa := h.trans (hb.mono h.size)
set_option maxHeartbeats 800000 in
set_option maxRecDepth 100000 in
theorem numText_small (n : Int) (hn : In64 n) (hs : ¬ (10 ≤ n ∧ n ≤ 281474976710655)) (w : World) :
    Calls Tryd.prog 25 #[.int .i64 n] w fun e w' => e = .returned (.string (mkB (numL n))) ∧ Below w.heap.size w w' := by
  unfold In64 at hn
  by_cases a : 0 ≤ n ∧ n ≤ 281474976710655
  · have HB := Lib.hid (numB_true a.1 a.2)
    have h10 : n < 10 := by omega
    have HN := Lib.hid (numL_one a.1 h10)
    have hw1 : IntKind.wrap .u8 (48 + n) = 48 + n := IntWalk.u8_in _ (by omega)
    have kc := conv_one (P := Tryd.prog) (src := 22) (dst := 9) Tryd.underlying22 Tryd.underlying5 Tryd.underlying9 (w.alloc (.cells #[.int .u8 (48 + n)] 5)) w.heap.size 1 (48 + n) (by simp [go_sem])
    rw [show UInt8.ofNat (48 + n).toNat = dgU n.toNat from by unfold dgU; congr 1; omega] at kc
    go_enter Tryd.func25, Tryd.ntmps25
    go_wp2_with fail
    refine (l01Num_any n _).mono ?_
    rintro e w1 ⟨rfl, rfl⟩
    rw [HB.out]
    go_wp2
    go_ret
    exact ⟨by rw [HN.out]; rfl, (Below.refl w.heap.size w).alloc (Nat.le_refl _) _⟩
  · have HN := Lib.hid (show mkB (numL n) = ⟨#[]⟩ by rw [numL_big a]; rfl)
    have HB := Lib.hid (numB_false a)
    go_enter Tryd.func25, Tryd.ntmps25
    go_wp2_with fail
    refine (l01Num_any n _).mono ?_
    rintro e w1 ⟨rfl, rfl⟩
    rw [HB.out]
    go_wp2
    go_ret
    exact ⟨by rw [HN.out]; rfl, Below.refl _ _⟩
set_option maxHeartbeats 1600000 in
set_option maxRecDepth 100000 in
theorem numText_spec : ∀ (m : Nat) (n : Int), n.toNat ≤ m → In64 n → ∀ w : World,
    Calls Tryd.prog 25 #[.int .i64 n] w fun e w' => e = .returned (.string (mkB (numL n))) ∧ Below w.heap.size w w' := by
  intro m
  induction m with
  | zero => exact fun n hm hn w => numText_small n hn (by omega) w
  | succ m ih =>
    intro n hm hn w
    by_cases a : 10 ≤ n ∧ n ≤ 281474976710655
    · unfold In64 at hn
      have HB := Lib.hid (numB_true (by omega) a.2)
      have HN := Lib.hid (numL_step (by omega) a.2)
      have hww : wrap64 (n / 10) = n / 10 := IntWalk.wrap64_in _ ⟨by omega, by omega⟩
      have hw1 : IntKind.wrap .u8 (48 + n % 10) = 48 + n % 10 := IntWalk.u8_in _ (by omega)
      have hDG : UInt8.ofNat (48 + n % 10).toNat = dgU (n % 10).toNat := by unfold dgU; congr 1; omega
      have HS : ¬ 9223372036854775807 < (mkB (numL (n / 10))).size + (mkB [dgU (n % 10).toNat]).size := sum_mk (by have := numL_len (n / 10); rw [List.length_singleton]; omega)
      go_enter Tryd.func25, Tryd.ntmps25
      go_wp2_with fail
      refine (l01Num_any n _).mono ?_
      rintro e w1 ⟨rfl, rfl⟩
      rw [HB.out]
      have hcg : ∀ w' : World, (convert 22 9 (.slice (some ⟨w'.heap.size, 0, none⟩) 1 1)).run Tryd.prog (w'.alloc (.cells #[.int .u8 (48 + n % 10)] 5)) = .ok (.string (mkB [dgU (n % 10).toNat])) (w'.alloc (.cells #[.int .u8 (48 + n % 10)] 5)) := fun w' => by
        rw [← hDG]
        exact conv_one Tryd.underlying22 Tryd.underlying5 Tryd.underlying9 _ _ 1 _ (by simp [go_sem])
      have hq : IntKind.i64.wrap (n.tdiv 10) = n / 10 := by rw [Int.tdiv_eq_ediv_of_nonneg (by omega)]; exact IntWalk.i64_in _ (by omega)
      have hz : IntKind.u8.wrap (IntKind.i64.wrap (48 + n.tmod 10)) = 48 + n % 10 := by rw [Int.tmod_eq_emod_of_nonneg (by omega), IntWalk.i64_in _ (by omega)]; exact hw1
      have HDG := Lib.hid hDG
      have hcgd : ∀ w' : World, (convert 22 9 (.slice (some ⟨w'.heap.size, 0, none⟩) 1 1)).run Tryd.prog (w'.alloc (.cells #[.int .u8 (48 + n % 10)] 5)).drew = .ok (.string (mkB [dgU (n % 10).toNat])) (w'.alloc (.cells #[.int .u8 (48 + n % 10)] 5)).drew := fun w' => by
        rw [← hDG]
        exact conv_one Tryd.underlying22 Tryd.underlying5 Tryd.underlying9 _ _ 1 _ (by simp [go_sem])
      clear hn HB hDG hww hw1
      go_wp2_with fail
      go_region_with (first | (go_at_call 25; (try rw [hq]); refine (ih (n / 10) (by omega) (by unfold In64; omega) _).mono ?_; rintro e wa ⟨rfl, hba⟩; (first | (have kc := conv_al (P := Tryd.prog) (src := 22) (dst := 9) (g := w.heap.size) Tryd.underlying22 Tryd.underlying5 Tryd.underlying9 rfl hba; rw [HDG.out] at kc) | (have kc := conv_ald (P := Tryd.prog) (src := 22) (dst := 9) (g := w.heap.size) Tryd.underlying22 Tryd.underlying5 Tryd.underlying9 rfl hba; rw [HDG.out] at kc) | skip)))
      all_goals
        clear hcg hcgd hq hz HS
        go_wp2
        go_ret
        exact ⟨by rw [HN.out, ← mkB_app]; rfl, by first | exact kbA _ (kbB (Below.refl _ _).drew hba) | exact kbB (kbD (kbA _ (Below.refl _ _))) hba | exact kbB (kbA _ (Below.refl _ _)) hba⟩
    · exact numText_small n hn a w
end Go.Proofs.YthffmjeodoinlaaDoor

/- The text of a graph, and a graph read from a text. Lists of bytes; no program. -/
namespace Go.Proofs.YthffmjeodoinlaaDoor
open Go.Lib
/-- The lines of a text. -/
def linesL (s : List UInt8) : List (List UInt8) := if (cutAt 10 s).getLast? = some [] then (cutAt 10 s).dropLast else cutAt 10 s
abbrev EdgeD := Int × Int × Int
def lineL (e : EdgeD) : List UInt8 := numL e.1 ++ [32] ++ numL e.2.1 ++ [32] ++ numL e.2.2
def edgesL (es : List EdgeD) : List UInt8 := es.flatMap fun e => lineL e ++ [10]
def graphL (n : Int) (es : List EdgeD) : List UInt8 := numL n ++ [10] ++ edgesL es
theorem edgesL_snoc (es : List EdgeD) (e : EdgeD) : edgesL (es ++ [e]) = edgesL es ++ (lineL e ++ [10]) := by simp [edgesL]
theorem lineL_len (e : EdgeD) : (lineL e).length ≤ 47 := by
  have := numL_len e.1; have := numL_len e.2.1; have := numL_len e.2.2
  simp [lineL]; omega
theorem edgesL_len : ∀ es : List EdgeD, (edgesL es).length ≤ 48 * es.length
  | [] => by simp [edgesL]
  | e :: es => by
    have ih := edgesL_len es
    have := lineL_len e
    have e1 : edgesL (e :: es) = (lineL e ++ [10]) ++ edgesL es := by simp [edgesL]
    rw [e1]; simp; omega
/-- An edge read from a line. -/
def readEdgeL (s : List UInt8) (n : Int) : EdgeD × Bool :=
  match cutAt 32 s with
  | [a, b, c] => (((textNumL a).1, (textNumL b).1, (textNumL c).1), (textNumL a).2 && (textNumL b).2 && (textNumL c).2 && decide ((textNumL a).1 < n) && decide ((textNumL b).1 < n) && decide ((textNumL c).1 ≤ 1000))
  | _ => ((0, 0, 0), false)
abbrev GraphD := Int × List EdgeD
def readRest (n : Int) : List (List UInt8) → List EdgeD → GraphD × Int
  | [], acc => ((n, acc), 0)
  | l :: t, acc => if (readEdgeL l n).2 then (if 400 ≤ acc.length then ((0, []), 2) else readRest n t (acc ++ [(readEdgeL l n).1])) else ((0, []), 1)
def readGraphL (s : List UInt8) : GraphD × Int :=
  if 20000 < s.length then ((0, []), 2) else
  match linesL s with
  | [] => ((0, []), 1)
  | h :: t => if (textNumL h).2 then (if 150 < (textNumL h).1 then ((0, []), 2) else readRest (textNumL h).1 t []) else ((0, []), 1)
theorem digit_ne {c : UInt8} (h : digit c) {d : UInt8} (hd : d.toNat < 48) : c ≠ d := fun e => by
  subst e
  unfold digit at h
  omega
theorem numL_ne (n : Int) {d : UInt8} (hd : d.toNat < 48) : ∀ x ∈ numL n, x ≠ d := fun x hx => digit_ne (numL_digit n x hx) hd
theorem cutAt_line (e : EdgeD) : cutAt 32 (lineL e) = [numL e.1, numL e.2.1, numL e.2.2] := by
  unfold lineL
  rw [List.append_assoc, List.append_assoc, List.append_assoc, List.singleton_append, cutAt_hit _ (numL_ne _ (by decide)), List.singleton_append, cutAt_hit _ (numL_ne _ (by decide)), cutAt_none (numL_ne _ (by decide))]
theorem lineL_ne (e : EdgeD) : ∀ x ∈ lineL e, x ≠ 10 := by
  intro x hx
  unfold lineL at hx
  simp only [List.mem_append, List.mem_singleton] at hx
  rcases hx with (((hx | hx) | hx) | hx) | hx
  · exact numL_ne _ (by decide) x hx
  · rw [hx]; decide
  · exact numL_ne _ (by decide) x hx
  · rw [hx]; decide
  · exact numL_ne _ (by decide) x hx
theorem cutAt_edges : ∀ es : List EdgeD, cutAt 10 (edgesL es) = es.map lineL ++ [[]]
  | [] => rfl
  | e :: es => by
    have e1 : edgesL (e :: es) = lineL e ++ 10 :: edgesL es := by simp [edgesL]
    rw [e1, cutAt_hit _ (lineL_ne e), cutAt_edges es]
    rfl
theorem linesL_graph (n : Int) (es : List EdgeD) : linesL (graphL n es) = numL n :: es.map lineL := by
  have e : cutAt 10 (graphL n es) = (numL n :: es.map lineL) ++ [[]] := by
    unfold graphL
    rw [List.append_assoc, List.singleton_append, cutAt_hit _ (numL_ne _ (by decide)), cutAt_edges]
    rfl
  unfold linesL
  rw [e, if_pos (List.getLast?_concat (l := numL n :: es.map lineL)), List.dropLast_concat]
theorem textNumL_numL {n : Int} (h0 : 0 ≤ n) (h1 : n ≤ 281474976710655) : textNumL (numL n) = (n, true) := by
  obtain ⟨u, rfl⟩ := Int.eq_ofNat_of_zero_le h0
  rw [numL_nat (by omega), textNumL_num (by omega)]
/-- A right edge. -/
def rightE (n : Int) (e : EdgeD) : Prop := (0 ≤ e.1 ∧ e.1 < n) ∧ (0 ≤ e.2.1 ∧ e.2.1 < n) ∧ 0 ≤ e.2.2 ∧ e.2.2 ≤ 1000
theorem readEdgeL_line {n : Int} {e : EdgeD} (hn : n ≤ 150) (h : rightE n e) : readEdgeL (lineL e) n = (e, true) := by
  obtain ⟨⟨h0, h1⟩, ⟨h2, h3⟩, h4, h5⟩ := h
  unfold readEdgeL
  rw [cutAt_line]
  simp only
  rw [textNumL_numL h0 (by omega), textNumL_numL h2 (by omega), textNumL_numL h4 (by omega)]
  simp [h1, h3, h5]
theorem readRest_lines {n : Int} (hn : n ≤ 150) : ∀ (es acc : List EdgeD), (∀ e ∈ es, rightE n e) → acc.length + es.length ≤ 400 → readRest n (es.map lineL) acc = ((n, acc ++ es), 0)
  | [], acc, _, _ => by simp [readRest]
  | e :: es, acc, h, hl => by
    simp only [List.length_cons] at hl
    rw [List.map_cons, readRest, readEdgeL_line hn (h e (by simp))]
    simp only
    rw [if_pos trivial, if_neg (by omega), readRest_lines hn es _ (fun x hx => h x (List.mem_cons_of_mem _ hx)) (by simp; omega), List.append_assoc]
    rfl
/-- A right graph is read from its text. -/
theorem readGraphL_graph {n : Int} {es : List EdgeD} (h0 : 0 ≤ n) (hn : n ≤ 150) (h : ∀ e ∈ es, rightE n e) (hl : es.length ≤ 400) (hs : (graphL n es).length ≤ 20000) : readGraphL (graphL n es) = ((n, es), 0) := by
  unfold readGraphL
  rw [if_neg (by omega), linesL_graph]
  simp only
  rw [textNumL_numL h0 (by omega)]
  simp only
  rw [if_pos trivial, if_neg (by omega), readRest_lines hn es [] h (by simpa using hl)]
  rfl
theorem graphL_len (n : Int) (es : List EdgeD) : (graphL n es).length ≤ 16 + 48 * es.length := by
  have := numL_len n
  have := edgesL_len es
  simp [graphL]; omega
/-- The lines of a text, cut by a loop that keeps what stands behind the last newline only where it is not empty. -/
theorem linesL_fin {s : List UInt8} {out : List (List UInt8)} {u : Nat} (h : CutTo 10 s out u s.length) : linesL s = if u < s.length then out ++ [s.drop u] else out := by
  have e := h.fin
  unfold linesL
  rw [e]
  simp only [List.getLast?_append, List.getLast?_singleton, Option.some_or, Option.some.injEq, List.dropLast_concat]
  have hu := h.1
  by_cases hlt : u < s.length
  · rw [if_pos hlt, if_neg]
    intro e
    have := congrArg List.length e
    rw [List.length_drop] at this
    simp at this
    omega
  · rw [if_neg hlt, if_pos (List.drop_of_length_le (by omega))]
theorem readRest_no : ∀ (n : Int) (ls : List (List UInt8)) (acc : List EdgeD), (readRest n ls acc).2 ≠ 0 → (readRest n ls acc).1 = (0, [])
  | _, [], _, h => by simp [readRest] at h
  | n, l :: t, acc, h => by
    unfold readRest at h ⊢
    split
    · split
      · rfl
      · rename_i h1 h2
        rw [if_pos h1, if_neg h2] at h
        exact readRest_no n t _ h
    · rfl
end Go.Proofs.YthffmjeodoinlaaDoor

/- Two closed facts on the program that each row's step uses. -/
namespace Go.Proofs.YthffmjeodoinlaaDoor
theorem own : ownKnob Tryd.prog.godebug = none := by kernel_rfl
theorem laidOut : laidOutB Tryd.prog = true := by kernel_rfl
end Go.Proofs.YthffmjeodoinlaaDoor

/- What each card of this seat's door uses: the witness at a world in which the listed variables are laid; the facts on them that the walks want. -/
namespace Go.Proofs.YthffmjeodoinlaaDoor
open Go.RowKit
theorem witness_lay {H : Type} {enc : TypeId × Value → H} {os : Os} {f : FuncId} {fn : Func} {s : OpenSpec} {conds : List PathCond} {apart : Bool} {laid : List (String × DataW Unit)} (modest : Bool) (args : Array Value) (fuel : Nat) (hk : s.cond = none)
    (hsh : ((World.laidAll Tryd.prog os laid).forCall (fun _ _ => 0) ⟨#[], args, []⟩).Shaped Tryd.prog)
    (hok : Input.okWideB Tryd.prog ((World.laidAll Tryd.prog os laid).forCall (fun _ _ => 0) ⟨#[], args, []⟩) f ⟨#[], args, []⟩ = true)
    (hpre : s.bare.preB enc Tryd.prog fn conds apart ((World.laidAll Tryd.prog os laid).forCall (fun _ _ => 0) ⟨#[], args, []⟩).memory args fuel = true)
    (hsz : s.bare.sizedB enc Tryd.prog fn apart ((World.laidAll Tryd.prog os laid).forCall (fun _ _ => 0) ⟨#[], args, []⟩).memory args fuel = true)
    (hl : laidMetH Tryd.prog laid ((World.laidAll Tryd.prog os laid).forCall (fun _ _ => 0) ⟨#[], args, []⟩).memory) :
    ∃ (w : World) (tape : Tape) (i : Input), w.os = os ∧ (w.forCall tape i).Shaped Tryd.prog ∧ i.vars = [] ∧ Input.okWide Tryd.prog (w.forCall tape i) .any w.heap.size f i ∧
      s.preRow enc Tryd.prog fn conds apart laid (w.forCall tape i).memory i.args ∧ ({ modest := modest } : Assume).holds Tryd.prog (lone (Frame.enter Tryd.prog f i.args .normal) [] (w.forCall tape i)) :=
  ⟨World.laidAll Tryd.prog os laid, fun _ _ => 0, ⟨#[], args, []⟩, World.laidAll_os _ _ _, hsh, (Input.okWide_of_okWideB (base := 0) hok).1, (Input.okWide_of_okWideB hok).2, OpenSpec.preRow_of_B hk fuel hpre hsz hl, by
    simp only [Assume.holds]
    exact ⟨by simp, by simp, fun _ => Modest.zero, by simp, by simp⟩⟩
end Go.Proofs.YthffmjeodoinlaaDoor

/- The fact on the listed variable that the walk of FnShards wants, out of a row's condition. -/
namespace Go.Proofs.YthffmjeodoinlaaDoor
open Go.RowKit
theorem pow_head {W : World} {r : List (String × DataW Unit)} (h : laidMet Tryd.prog (("internal/strconv.uint64pow10", Rows.laid_internal_strconv_uint64pow10) :: r) W) : Pow Tryd.prog W :=
  Lib.tabIs_of_head (show Tryd.prog.globalNamed "internal/strconv.uint64pow10" = some 0 by kernel_rfl) (show (Tryd.prog.globals[0]?).map (·.type) = some 125 by kernel_rfl) Tryd.underlying125 Tryd.underlying103 (by kernel_rfl) (by kernel_rfl) h
end Go.Proofs.YthffmjeodoinlaaDoor

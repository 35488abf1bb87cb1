/- The encoding of a shard: the plain function. A block of five cells that a call has made. -/
import Derived.Test.YtkgalkaafocnjaaShardP
import Derived.Test.YtkgalkaafocnjaaZig
import Derived.Test.YtkgalkaafocnjaaNestA
import Derived.Laws.IdiomCopy
namespace Go.Proofs.Ytkgalkaafocnjaa
open Go.RowKit
def shPrev (lo : Int) (xs : List SEdgeR) (k : Nat) : SEdgeR := if k = 0 then ⟨0, lo, 0, 0, 0⟩ else atSEdge xs (k - 1)
def shEdge (p e : SEdgeR) : List Int := vdig (e.fr - p.fr).toNat ++ vdig (zigN (e.to - p.to)) ++ vdig e.wt.toNat ++ vdig (zigN (e.ix - p.ix))
def shHead (lo hi : Int) (n : Nat) : List Int := vdig lo.toNat ++ vdig hi.toNat ++ vdig n
def shTo (lo hi : Int) (xs : List SEdgeR) (k : Nat) : List Int := shHead lo hi xs.length ++ (List.range k).flatMap fun i => shEdge (shPrev lo xs i) (atSEdge xs i)
def shardBytesF (D : Int × Int × List SEdgeR) : List Int × Bool := if shardB D.1 D.2.1 D.2.2 then (shTo D.1 D.2.1 D.2.2 D.2.2.length, true) else ([], false)
theorem shPrev_zero (lo : Int) (xs : List SEdgeR) : shPrev lo xs 0 = ⟨0, lo, 0, 0, 0⟩ := rfl
theorem shPrev_succ (lo : Int) (xs : List SEdgeR) (k : Nat) : shPrev lo xs (k + 1) = atSEdge xs k := by unfold shPrev; rw [if_neg (by omega), Nat.add_sub_cancel]
theorem shTo_zero (lo hi : Int) (xs : List SEdgeR) : shTo lo hi xs 0 = shHead lo hi xs.length := by unfold shTo; simp
theorem shTo_succ (lo hi : Int) (xs : List SEdgeR) (k : Nat) : shTo lo hi xs (k + 1) = shTo lo hi xs k ++ shEdge (shPrev lo xs k) (atSEdge xs k) := by
  unfold shTo
  rw [List.range_succ, List.flatMap_append, List.append_assoc]
  simp
theorem shEdge_app (zs : List Int) (p e : SEdgeR) : (((zs ++ vdig (e.fr - p.fr).toNat) ++ vdig (zigN (e.to - p.to))) ++ vdig e.wt.toNat) ++ vdig (zigN (e.ix - p.ix)) = zs ++ shEdge p e := by
  unfold shEdge; simp only [List.append_assoc]
structure ShB (p e : SEdgeR) : Prop where
  f0 : 0 ≤ p.fr
  f1 : p.fr ≤ e.fr
  f2 : e.fr < 150
  t0 : 0 ≤ p.to
  t1 : p.to ≤ 150
  t2 : 0 ≤ e.to
  t3 : e.to ≤ 150
  v0 : 0 ≤ e.wt
  v1 : e.wt ≤ 1000
  i0 : 0 ≤ p.ix
  i1 : p.ix ≤ 400
  i2 : 0 ≤ e.ix
  i3 : e.ix < 400
theorem shFacts {lo hi : Int} {xs : List SEdgeR} (h : shardB lo hi xs = true) {k : Nat} (hk : k < xs.length) : ShB (shPrev lo xs k) (atSEdge xs k) := by
  obtain ⟨h1, h2, h3, h4, h5⟩ := shardB_yes h
  have e := h5 k hk
  have eB : sedgeB lo hi (atSEdge xs k) = true := by simp [stepB] at e; exact e.1
  obtain ⟨e1, e2⟩ := sedgeB_yes eB
  by_cases c : k = 0
  · subst c
    rw [shPrev_zero]
    exact ⟨Int.le_refl _, e1.1, by omega, h1, (show lo ≤ 150 from by omega), by omega, by omega, by omega, by omega, Int.le_refl _, (show (0 : Int) ≤ 400 from by omega), by omega, by omega⟩
  · obtain ⟨j, rfl⟩ : ∃ j, k = j + 1 := ⟨k - 1, by omega⟩
    have p := h5 j (by omega)
    have pB : sedgeB lo hi (atSEdge xs j) = true := by simp [stepB] at p; exact p.1
    obtain ⟨p1, p2⟩ := sedgeB_yes pB
    have n := nextB_yes (by rw [← stepB_next eB (by omega)]; exact e)
    rw [Nat.add_sub_cancel] at n
    rw [shPrev_succ]
    exact ⟨by omega, by omega, by omega, by omega, by omega, by omega, by omega, by omega, by omega, by omega, by omega, by omega, by omega⟩
theorem zigN_le {x : Int} (h0 : -1000 ≤ x) (h1 : x ≤ 1000) : zigN x ≤ 2000 := by
  by_cases h : 0 ≤ x
  · have := zigN_pos h; omega
  · have := zigN_neg h; omega
theorem vdig_le2 {n : Nat} (h : n ≤ 2000) : (vdig n).length ≤ 2 := vdig_len 1 n (by omega)
theorem shEdge_len {p e : SEdgeR} (h : ShB p e) : (shEdge p e).length ≤ 8 := by
  obtain ⟨f0, f1, f2, t0, t1, t2, t3, v0, v1, i0, i1, i2, i3⟩ := h
  unfold shEdge
  simp only [List.length_append]
  have a := vdig_le2 (n := (e.fr - p.fr).toNat) (by omega)
  have b := vdig_le2 (zigN_le (x := e.to - p.to) (by omega) (by omega))
  have c := vdig_le2 (n := e.wt.toNat) (by omega)
  have d := vdig_le2 (zigN_le (x := e.ix - p.ix) (by omega) (by omega))
  omega
theorem shHead_len {lo hi : Int} {xs : List SEdgeR} (h : shardB lo hi xs = true) : (shHead lo hi xs.length).length ≤ 6 := by
  obtain ⟨h1, h2, h3, h4, h5⟩ := shardB_yes h
  unfold shHead
  simp only [List.length_append]
  have a := vdig_le2 (n := lo.toNat) (by omega)
  have b := vdig_le2 (n := hi.toNat) (by omega)
  have c := vdig_le2 (n := xs.length) (by omega)
  omega
theorem shTo_len {lo hi : Int} {xs : List SEdgeR} (h : shardB lo hi xs = true) : ∀ k, k ≤ xs.length → (shTo lo hi xs k).length ≤ 6 + 8 * k := by
  intro k
  induction k with
  | zero => intro _; rw [shTo_zero]; have := shHead_len h; omega
  | succ k ih =>
    intro hk
    rw [shTo_succ, List.length_append]
    have a := ih (by omega)
    have b := shEdge_len (shFacts h (k := k) (by omega))
    omega
theorem app8 {xs ys : List Int} (h1 : ∀ y ∈ xs, In8 y) (h2 : ∀ y ∈ ys, In8 y) : ∀ y ∈ xs ++ ys, In8 y := fun y hy => (List.mem_append.1 hy).elim (h1 y) (h2 y)
theorem vdig8 (n : Nat) : ∀ y ∈ vdig n, In8 y := vdig_in8 n n (Nat.le_refl _)
theorem shEdge_in8 (p e : SEdgeR) : ∀ y ∈ shEdge p e, In8 y := app8 (app8 (app8 (vdig8 _) (vdig8 _)) (vdig8 _)) (vdig8 _)
theorem shTo_in8 (lo hi : Int) (xs : List SEdgeR) (k : Nat) : ∀ y ∈ shTo lo hi xs k, In8 y := by
  refine app8 (app8 (app8 (vdig8 _) (vdig8 _)) (vdig8 _)) ?_
  intro y hy
  obtain ⟨i, _, h⟩ := List.mem_flatMap.1 hy
  exact shEdge_in8 _ _ y h
theorem shardBytesF_yes {D : Int × Int × List SEdgeR} (h : shardB D.1 D.2.1 D.2.2 = true) : shardBytesF D = (shTo D.1 D.2.1 D.2.2 D.2.2.length, true) := by unfold shardBytesF; rw [if_pos h]
theorem shardBytesF_no {D : Int × Int × List SEdgeR} (h : shardB D.1 D.2.1 D.2.2 = false) : shardBytesF D = ([], false) := by unfold shardBytesF; rw [if_neg (by rw [h]; simp)]
/-- Block b holds the struct e, and is not frozen. -/
structure Box5 (w : World) (b : Nat) (e : SEdgeR) : Prop where
  c0 : w.cell? ⟨b, 0, none⟩ = some (.int .i64 e.fr)
  c1 : w.cell? ⟨b, 1, none⟩ = some (.int .i64 e.to)
  c2 : w.cell? ⟨b, 2, none⟩ = some (.int .i64 e.wt)
  c3 : w.cell? ⟨b, 3, none⟩ = some (.int .i64 e.ix)
  c4 : w.cell? ⟨b, 4, none⟩ = some (.int .i64 e.val)
  f0 : w.frozen? ⟨b, 0, none⟩ = false
  f1 : w.frozen? ⟨b, 1, none⟩ = false
  f2 : w.frozen? ⟨b, 2, none⟩ = false
  f3 : w.frozen? ⟨b, 3, none⟩ = false
  f4 : w.frozen? ⟨b, 4, none⟩ = false
theorem Box5.lt {w : World} {b : Nat} {e : SEdgeR} (h : Box5 w b e) : b < w.heap.size := World.block_lt_of_cell? _ _ h.c0
theorem Box5.keep {w w' : World} {b : Nat} {e : SEdgeR} (h : Box5 w b e) (hb : w'.heap[b]? = w.heap[b]?) : Box5 w' b e := by
  have c : ∀ o, w'.cell? ⟨b, o, none⟩ = w.cell? ⟨b, o, none⟩ := fun o => World.cell?_of_block (w := w) (a := ⟨b, o, none⟩) hb
  have f : ∀ o, w'.frozen? ⟨b, o, none⟩ = w.frozen? ⟨b, o, none⟩ := fun o => by unfold World.frozen?; rw [hb]
  exact ⟨(c 0).trans h.c0, (c 1).trans h.c1, (c 2).trans h.c2, (c 3).trans h.c3, (c 4).trans h.c4, (f 0).trans h.f0, (f 1).trans h.f1, (f 2).trans h.f2, (f 3).trans h.f3, (f 4).trans h.f4⟩
theorem Box5.below {w w' : World} {b : Nat} {e : SEdgeR} (h : Box5 w b e) (hb : Below w.heap.size w w') : Box5 w' b e := h.keep (hb.block b h.lt)
theorem Box5.new (w : World) (e : SEdgeR) (t : TypeId) : Box5 (w.alloc (.cells #[.int .i64 e.fr, .int .i64 e.to, .int .i64 e.wt, .int .i64 e.ix, .int .i64 e.val] t)) w.heap.size e := by
  refine ⟨?_, ?_, ?_, ?_, ?_, ?_, ?_, ?_, ?_, ?_⟩ <;> simp [go_sem]
theorem Box5.put {w : World} {b : Nat} {e : SEdgeR} (h : Box5 w b e) (x : SEdgeR) : Box5 (((((w.setCell ⟨b, 0, none⟩ (.int .i64 x.fr)).setCell ⟨b, 1, none⟩ (.int .i64 x.to)).setCell ⟨b, 2, none⟩ (.int .i64 x.wt)).setCell ⟨b, 3, none⟩ (.int .i64 x.ix)).setCell ⟨b, 4, none⟩ (.int .i64 x.val)) b x := by
  have e1 : ((((w.setCell ⟨b, 0, none⟩ (.int .i64 x.fr)).setCell ⟨b, 1, none⟩ (.int .i64 x.to)).setCell ⟨b, 2, none⟩ (.int .i64 x.wt)).setCell ⟨b, 3, none⟩ (.int .i64 x.ix)).setCell ⟨b, 4, none⟩ (.int .i64 x.val) = w.setCells b 0 (encSEdge x) := rfl
  have th : ∀ j, j < (encSEdge x).length → (w.cell? ⟨b, 0 + j, none⟩).isSome = true := fun j hj => by
    match j, hj with
    | 0, _ => rw [h.c0]; rfl
    | 1, _ => rw [h.c1]; rfl
    | 2, _ => rw [h.c2]; rfl
    | 3, _ => rw [h.c3]; rfl
    | 4, _ => rw [h.c4]; rfl
  have ci := World.cell?_setCells_in b (encSEdge x) 0 w th
  have fr : ∀ o, (w.setCells b 0 (encSEdge x)).frozen? ⟨b, o, none⟩ = w.frozen? ⟨b, o, none⟩ := fun o => World.frozen?_setCells b _ 0 w _
  rw [e1]
  exact ⟨ci 0 (show 0 < 5 from by decide), ci 1 (show 1 < 5 from by decide), ci 2 (show 2 < 5 from by decide), ci 3 (show 3 < 5 from by decide), ci 4 (show 4 < 5 from by decide), (fr 0).trans h.f0, (fr 1).trans h.f1, (fr 2).trans h.f2, (fr 3).trans h.f3, (fr 4).trans h.f4⟩
theorem setCells_win (b : Nat) : ∀ (vs : List Value) (o : Nat) (w : World), Win b (b + 1) w (w.setCells b o vs)
  | [], _, w => Win.refl _ _ w
  | v :: r, o, w => (Win.set w b o v (Nat.le_refl _) (Nat.lt_succ_self _)).trans (setCells_win b r (o + 1) _)
theorem put5_win (w : World) (b : Nat) (x : SEdgeR) : Win b (b + 1) w (((((w.setCell ⟨b, 0, none⟩ (.int .i64 x.fr)).setCell ⟨b, 1, none⟩ (.int .i64 x.to)).setCell ⟨b, 2, none⟩ (.int .i64 x.wt)).setCell ⟨b, 3, none⟩ (.int .i64 x.ix)).setCell ⟨b, 4, none⟩ (.int .i64 x.val)) := setCells_win b (encSEdge x) 0 w
end Go.Proofs.Ytkgalkaafocnjaa

import Derived.Test.YthffmjeodoinlaaMgPExactShards0
import Derived.Test.YthffmjeodoinlaaMergeS
import Derived.Test.YthffmjeodoinlaaNestA
import Derived.Test.YthffmjeodoinlaaSortAll
import Derived.Test.YthffmjeodoinlaaSortOneS
import Derived.Test.YthffmjeodoinlaaKeep
import Derived.Test.YthffmjeodoinlaaRow
import Derived.Test.YthffmjeodoinlaaOpen
/- Shards: the plain function. -/
namespace Go.Proofs.Ythffmjeodoinlaa
open Go.RowKit
def recOf (es : List Int) (xs : List EdgeR) (i : Nat) : RecR := ⟨ivI es (edgeAt xs i).to, (edgeAt xs i).fr, i⟩
def recsTo (es : List Int) (xs : List EdgeR) (k : Nat) : List RecR := (List.range k).map (recOf es xs)
theorem recsTo_succ (es : List Int) (xs : List EdgeR) (k : Nat) : recsTo es xs (k + 1) = recsTo es xs k ++ [recOf es xs k] := by unfold recsTo; rw [List.range_succ, List.map_append]; rfl
theorem len_recsTo (es : List Int) (xs : List EdgeR) (k : Nat) : (recsTo es xs k).length = k := by simp [recsTo]
def sedgeOf (xs : List EdgeR) (r : RecR) : SEdgeR := ⟨(edgeAt xs r.c.toNat).fr, (edgeAt xs r.c.toNat).to, (edgeAt xs r.c.toNat).wt, r.c, 0⟩
def innerOf (xs : List EdgeR) (p : Nat) (L : List RecR) : List SEdgeR := (L.filter fun r => decide (r.a = (p : Int))).map (sedgeOf xs)
theorem innerOf_hit (xs : List EdgeR) (p : Nat) (L : List RecR) (r : RecR) (h : r.a = (p : Int)) : innerOf xs p (L ++ [r]) = innerOf xs p L ++ [sedgeOf xs r] := by
  unfold innerOf; rw [List.filter_append, List.map_append]; simp [h]
theorem innerOf_miss (xs : List EdgeR) (p : Nat) (L : List RecR) (r : RecR) (h : ¬ r.a = (p : Int)) : innerOf xs p (L ++ [r]) = innerOf xs p L := by
  unfold innerOf; rw [List.filter_append, List.map_append]; simp [h]
theorem len_innerOf (xs : List EdgeR) (p : Nat) (L : List RecR) : (innerOf xs p L).length ≤ L.length := by
  unfold innerOf; rw [List.length_map]; exact List.length_filter_le _ _
def shardOf (es : List Int) (xs : List EdgeR) (L : List RecR) (p : Nat) : Int × Int × List SEdgeR := ((spanI es p).1, (spanI es p).2, innerOf xs p L)
def dealtTo (es : List Int) (xs : List EdgeR) (L : List RecR) (q : Nat) : List (Int × Int × List SEdgeR) := (List.range q).map (shardOf es xs L)
theorem dealtTo_succ (es : List Int) (xs : List EdgeR) (L : List RecR) (q : Nat) : dealtTo es xs L (q + 1) = dealtTo es xs L q ++ [shardOf es xs L q] := by unfold dealtTo; rw [List.range_succ, List.map_append]; rfl
theorem len_dealtTo (es : List Int) (xs : List EdgeR) (L : List RecR) (q : Nat) : (dealtTo es xs L q).length = q := by simp [dealtTo]
theorem dealtTo_get (es : List Int) (xs : List EdgeR) (L : List RecR) (q p : Nat) (h : p < (dealtTo es xs L q).length) : (dealtTo es xs L q)[p] = shardOf es xs L p := by simp [dealtTo]
theorem dealtTo_set (es : List Int) (xs : List EdgeR) (L : List RecR) (q p : Nat) (r : RecR) (h : r.a = (p : Int)) : (dealtTo es xs L q).set p ((spanI es p).1, (spanI es p).2, innerOf xs p L ++ [sedgeOf xs r]) = dealtTo es xs (L ++ [r]) q := by
  apply List.ext_getElem
  · simp [dealtTo]
  · intro i h1 h2
    rw [List.getElem_set, dealtTo_get, dealtTo_get]
    by_cases e : p = i
    · subst e
      rw [if_pos rfl]
      unfold shardOf
      rw [innerOf_hit xs p L r h]
    · rw [if_neg e]
      unfold shardOf
      rw [innerOf_miss xs i L r (by rw [h]; omega)]
def sortedOf (es : List Int) (xs : List EdgeR) (size : Int) : List RecR := mergeF (batF (recsTo es xs xs.length) size)
def shardsF (n : Int) (xs : List EdgeR) (es : List Int) (size : Int) : List (Int × Int × List SEdgeR) := if graphB n xs = true ∧ endsB n es = true ∧ 1 ≤ size then dealtTo es xs (sortedOf es xs size) es.length else []
theorem shardsF_no {n : Int} {xs : List EdgeR} {es : List Int} {size : Int} (h : ¬ (graphB n xs = true ∧ endsB n es = true ∧ 1 ≤ size)) : shardsF n xs es size = [] := if_neg h
theorem shardsF_yes {n : Int} {xs : List EdgeR} {es : List Int} {size : Int} (h : graphB n xs = true) (h2 : endsB n es = true) (h3 : 1 ≤ size) : shardsF n xs es size = dealtTo es xs (sortedOf es xs size) es.length := if_pos ⟨h, h2, h3⟩
/-- What a record of the sorted row is. -/
structure RecIn (es : List Int) (xs : List EdgeR) (r : RecR) : Prop where
  a : ∃ p : Nat, r.a = (p : Int) ∧ p < es.length
  c : ∃ c : Nat, r.c = (c : Int) ∧ c < xs.length
theorem sorted_in {n : Int} {es : List Int} {xs : List EdgeR} {size : Int} (hg : graphB n xs = true) (he : endsB n es = true) (hs : 1 ≤ size) : ∀ r ∈ sortedOf es xs size, RecIn es xs r := by
  intro r hr
  unfold sortedOf at hr
  rw [sortAll_eq _ _ hs] at hr
  have hr2 : r ∈ recsTo es xs xs.length := (List.mergeSort_perm _ _).mem_iff.1 hr
  unfold recsTo at hr2
  rw [List.mem_map] at hr2
  obtain ⟨i, hi, rfl⟩ := hr2
  rw [List.mem_range] at hi
  obtain ⟨_, _, _, q4⟩ := graphB_yes hg
  obtain ⟨_, _, r3, r4, _, _⟩ := edgeB_yes (q4 i hi)
  exact ⟨iv_in he r3 r4, i, rfl, hi⟩
theorem sorted_len (es : List Int) (xs : List EdgeR) {size : Int} (hs : 1 ≤ size) : (sortedOf es xs size).length = xs.length := by
  unfold sortedOf
  rw [sortAll_eq _ _ hs, len_sortL, len_recsTo]
theorem incB_len : ∀ (zs : List Int) (l m : Int), incB l zs = some m → l + zs.length ≤ m := by
  intro zs
  induction zs with
  | nil => intro l m h; simp only [incB, Option.some.injEq] at h; subst h; simp
  | cons z r ih =>
    intro l m h
    simp only [incB] at h
    split at h
    · cases h
    · have := ih z m h
      rw [List.length_cons]
      omega
theorem ends_len {n : Int} {es : List Int} (h : endsB n es = true) : es.length ≤ 150 := by
  obtain ⟨_, h2, h3⟩ := endsB_yes h
  have := incB_len es 0 n h3
  omega
theorem sum_le {α : Type} (f : α → Nat) (B : Nat) : ∀ l : List α, (∀ x ∈ l, f x ≤ B) → (l.map f).sum ≤ l.length * B := by
  intro l
  induction l with
  | nil => intro _; simp
  | cons a r ih =>
    intro h
    have h1 := h a (by simp)
    have h2 := ih (fun x hx => h x (by simp [hx]))
    simp only [List.map_cons, List.sum_cons, List.length_cons]
    have : (r.length + 1) * B = r.length * B + B := by rw [Nat.add_mul, Nat.one_mul]
    omega
theorem flat_put1 {α : Type} {enc : α → List Value} {sz : Nat} (hs : ∀ x, (enc x).length = sz) : ∀ (xs : List α) (k : Nat) (hk : k < xs.length) (f : Nat) (_hf : f < sz) (v : Value) (y : α), enc y = (enc xs[k]).set f v → (xs.flatMap enc).set (k * sz + f) v = (xs.set k y).flatMap enc := by
  intro xs
  induction xs with
  | nil => intro k hk; exact absurd hk (by simp)
  | cons x r ih =>
    intro k hk f hf v y hy
    rw [List.flatMap_cons]
    cases k with
    | zero =>
      rw [List.set_append_left _ _ (by rw [hs]; omega), List.set_cons_zero, List.flatMap_cons, hy]
      simp
    | succ k =>
      rw [List.set_append_right _ _ (by rw [hs, Nat.succ_mul]; omega), hs, show (k + 1) * sz + f - sz = k * sz + f from by rw [Nat.succ_mul]; omega, List.set_cons_succ, List.flatMap_cons, ih k (by simpa using hk) f hf v y (by simpa using hy)]
/-- The outer row of a walk: its data, its size. -/
structure ShInv (lo : Nat) (w : World) (y : Row ShardR) (D : List (Int × Int × List SEdgeR)) : Prop where
  own : OwnShardS lo w.heap.size w y
  dat : datShardS y = D
theorem ShInv.n {lo : Nat} {w : World} {y : Row ShardR} {D : List (Int × Int × List SEdgeR)} (h : ShInv lo w y D) : y.n = D.length := by
  rw [← h.dat, ← h.own.nest.row.len]; unfold datShardS; rw [List.length_map]
theorem ShInv.below {lo : Nat} {w w' : World} {y : Row ShardR} {D : List (Int × Int × List SEdgeR)} (h : ShInv lo w y D) (hb : Below w.heap.size w w') : ShInv lo w' y D :=
  ⟨⟨(h.own.nest.below hb).grow hb.size (Nat.le_refl _)⟩, h.dat⟩
theorem ShInv.bulk {lo : Nat} {w : World} {y : Row ShardR} {es : List Int} {xs : List EdgeR} {L : List RecR} (h : ShInv lo w y (dealtTo es xs L es.length)) (h1 : es.length ≤ 150) (h2 : L.length ≤ 400) : bulkShardS y ≤ 1048576 := by
  have hn := h.n
  rw [len_dealtTo] at hn
  unfold bulkShardS preShard
  rw [List.take_length]
  have hs : (y.l.map bulkShard).sum ≤ y.l.length * 400 := by
    apply sum_le
    intro x hx
    obtain ⟨i, hi, rfl⟩ := List.getElem_of_mem hx
    have hl := (h.own.nest.inner i hi).len
    have hd : (datShardS y)[i]? = some (datShard y.l[i]) := by unfold datShardS; rw [List.getElem?_map, List.getElem?_eq_getElem hi]; rfl
    rw [h.dat] at hd
    obtain ⟨h3, h4⟩ := List.getElem?_eq_some_iff.1 hd
    rw [dealtTo_get] at h4
    have h5 : y.l[i].edges = innerOf xs i L := by
      have := congrArg (fun t => t.2.2) h4
      exact this.symm
    unfold bulkShard
    have h6 := len_innerOf xs i L
    have h7 : y.l[i].edges.length = y.l[i].edgesN := hl
    rw [h5] at h7
    omega
  have hl := h.own.nest.row.len
  rw [hl, hn] at hs
  omega
/-- One shard more. -/
theorem ShInv.snoc {lo : Nat} {W0 w2 : World} {y : Row ShardR} {D : List (Int × Int × List SEdgeR)} (h : ShInv lo W0 y D) (x : ShardR) (A2 : Option Addr) (C2 : Nat)
    (hin : OwnS encSEdge 5 88 lo W0.heap.size W0 x.edgesA x.edgesN x.edgesC x.edges)
    (ho2 : w2.ownsRow lo 86 3 (.slice A2 (y.n + 1) C2) (y.n + 1) (y.l.flatMap encShard ++ encShard x)) (hg2 : W0.grownBy w2 (Value.slice y.a y.n y.c).ownBlock)
    (hnew : (Value.slice A2 (y.n + 1) C2).ownBlock = (Value.slice y.a y.n y.c).ownBlock ∨ ∀ g, (Value.slice A2 (y.n + 1) C2).ownBlock = some g → W0.heap.size ≤ g)
    (hsm : y.n < 1000000)
    (hap : ∀ g, (Value.slice x.edgesA x.edgesN x.edgesC).ownBlock = some g → blkR y ≠ some g ∧ ∀ i (hi0 : i < y.l.length), blkR (slShard y.l[i]) ≠ some g) :
    ShInv lo w2 ⟨A2, y.n + 1, C2, y.l ++ [x]⟩ (D ++ [datShard x]) := by
  have hyl := h.own.nest.row.len
  have hsn := h.own.nest.snoc x A2 C2 (OwnS.of (by rw [List.flatMap_append]; simpa using ho2) (by simp; omega) (show y.n + 1 ≤ _ by omega)) hin hg2 hnew
    (fun g hg => (hap g hg).1) (fun i hi0 g hg e => (hap g e).2 i hi0 hg) hg2.size (Nat.le_refl _)
  refine ⟨⟨hsn⟩, ?_⟩
  have := h.dat
  unfold datShardS at this ⊢
  simp only [List.map_append, List.map_cons, List.map_nil, this]
/-- One shard's row of edges written anew. -/
theorem ShInv.put {lo : Nat} {w w2 : World} {y : Row ShardR} {D : List (Int × Int × List SEdgeR)} (h : ShInv lo w y D) (p g : Nat) (hp : p < y.l.length) (hy : y.a = some ⟨g, 0, none⟩) (A2 : Option Addr) (C2 : Nat) (e : SEdgeR)
    (ho2 : w2.ownsRow lo 88 5 (.slice A2 (y.l[p].edgesN + 1) C2) (y.l[p].edgesN + 1) (y.l[p].edges.flatMap encSEdge ++ encSEdge e))
    (hg2 : w.grownBy w2 (Value.slice y.l[p].edgesA y.l[p].edgesN y.l[p].edgesC).ownBlock)
    (hnew : (Value.slice A2 (y.l[p].edgesN + 1) C2).ownBlock = (Value.slice y.l[p].edgesA y.l[p].edgesN y.l[p].edgesC).ownBlock ∨ ∀ g, (Value.slice A2 (y.l[p].edgesN + 1) C2).ownBlock = some g → w.heap.size ≤ g)
    (hsm : y.l[p].edgesN < 1000000) :
    ShInv lo (w2.setCell ⟨g, p * 3 + 2, none⟩ (.slice A2 (y.l[p].edgesN + 1) C2)) ⟨y.a, y.n, y.c, y.l.set p ⟨y.l[p].lo, y.l[p].hi, A2, y.l[p].edgesN + 1, C2, y.l[p].edges ++ [e]⟩⟩ (D.set p (y.l[p].lo, y.l[p].hi, y.l[p].edges ++ [e])) := by
  have hyb : blkR y = some g := by unfold blkR; rw [hy]; rfl
  have hrl := h.own.nest.row.lt g hyb
  have hil := h.own.nest.inner p hp
  have hap := h.own.nest.apart p hp
  have hrow0 : w2.ownsRow lo 86 3 (.slice y.a y.n y.c) y.n (y.l.flatMap encShard) := by
    refine own_keep h.own.nest.row.own (fun q hq => ?_)
    have e1 : blkR y = some q := hq
    refine hg2.block q (h.own.nest.row.lt q hq) (fun e2 => hap q e2.symm e1)
  have hxs : (y.l.flatMap encShard).length = y.n * 3 := hrow0.1
  have hset := flat_put1 (sz := 3) lenShard y.l p hp 2 (by omega) (.slice A2 (y.l[p].edgesN + 1) C2) ⟨y.l[p].lo, y.l[p].hi, A2, y.l[p].edgesN + 1, C2, y.l[p].edges ++ [e]⟩ rfl
  rw [hy] at hrow0
  have hst := (hrow0.stored (p * 3 + 2) (.slice A2 (y.l[p].edgesN + 1) C2)).1
  rw [hset, ← hy] at hst
  have hlo := (World.ownsRow.lt h.own.nest.row.own g hyb).1
  have hs2 := hg2.size
  have hgp : ∀ q, (Value.slice A2 (y.l[p].edgesN + 1) C2).ownBlock = some q → q ≠ g := by
    intro q hq e1
    subst e1
    rcases hnew with h1 | h1
    · rw [h1] at hq; exact hap q hq hyb
    · have := h1 q hq; omega
  have hkp := hst.lt
  refine ⟨⟨h.own.nest.put p hp ⟨y.l[p].lo, y.l[p].hi, A2, y.l[p].edgesN + 1, C2, y.l[p].edges ++ [e]⟩ ?_ ?_ ?_ ?_ (by simpa using hs2) (Nat.le_refl _)⟩, ?_⟩
  · exact OwnS.of (by simpa using hst) (by rw [List.length_set]; exact h.own.nest.row.len) h.own.nest.row.small
  · refine OwnS.of (own_keep (by show w2.ownsRow lo 88 5 (.slice A2 (y.l[p].edgesN + 1) C2) (y.l[p].edgesN + 1) ((y.l[p].edges ++ [e]).flatMap encSEdge); rw [List.flatMap_append]; simpa using ho2) (fun q hq => Below.heap_setCell _ _ _ _ (hgp q hq))) ?_ (show y.l[p].edgesN + 1 ≤ _ by omega)
    have : y.l[p].edges.length = y.l[p].edgesN := hil.len
    simp [slShard, this]
  · intro q hq
    rcases hnew with h1 | h1
    · left; have hq' : (Value.slice A2 (y.l[p].edgesN + 1) C2).ownBlock = some q := hq; rw [h1] at hq'; exact hq'
    · right; exact h1 q hq
  · intro q hq hne hne2
    rw [Below.heap_setCell _ _ _ _ (fun e1 => hne (by rw [hyb, e1]))]
    exact hg2.block q hq (fun e2 => hne2 e2.symm)
  · have := h.dat
    unfold datShardS at this ⊢
    simp only [List.map_set, this]
    rfl
theorem ShInv.put2 {lo : Nat} {w w2 : World} {y : Row ShardR} {D : List (Int × Int × List SEdgeR)} (h : ShInv lo w y D) (p g : Nat) (hp : p < y.l.length) (v : ShardR) (hv : y.l[p] = v) (hy : y.a = some ⟨g, 0, none⟩) (A2 : Option Addr) (C2 : Nat) (e : SEdgeR)
    (ho2 : w2.ownsRow lo 88 5 (.slice A2 (v.edgesN + 1) C2) (v.edgesN + 1) (v.edges.flatMap encSEdge ++ encSEdge e))
    (hg2 : w.grownBy w2 (Value.slice v.edgesA v.edgesN v.edgesC).ownBlock)
    (hnew : (Value.slice A2 (v.edgesN + 1) C2).ownBlock = (Value.slice v.edgesA v.edgesN v.edgesC).ownBlock ∨ ∀ g, (Value.slice A2 (v.edgesN + 1) C2).ownBlock = some g → w.heap.size ≤ g)
    (hsm : v.edgesN < 1000000) :
    ShInv lo (w2.setCell ⟨g, p * 3 + 2, none⟩ (.slice A2 (v.edgesN + 1) C2)) ⟨y.a, y.n, y.c, y.l.set p ⟨v.lo, v.hi, A2, v.edgesN + 1, C2, v.edges ++ [e]⟩⟩ (D.set p (v.lo, v.hi, v.edges ++ [e])) := by
  subst hv
  exact h.put p g hp hy A2 C2 e ho2 hg2 hnew hsm
end Go.Proofs.Ythffmjeodoinlaa

/- Shards of the program and of the reference: what they compute. -/
namespace Go.Proofs.Ythffmjeodoinlaa
open Go.RowKit
theorem infoShardB : (Try.prog.info? 86).map (fun i => (i.zero, i.size, i.bytes)) = some (some (.agg #[.int .i64 0, .int .i64 0, .slice none 0 0]), 3, 40) := by kernel_rfl
theorem oneSEdgeV (x : SEdgeR) : ∀ u ∈ encSEdge x, u.oneCell' = true := by
  intro u hu
  simp [encSEdge] at hu
  rcases hu with rfl | rfl | rfl | rfl | rfl <;> rfl
theorem oneShardV (x : ShardR) : ∀ u ∈ encShard x, u.oneCell' = true := by
  intro u hu
  simp [encShard] at hu
  rcases hu with rfl | rfl | rfl <;> rfl
theorem set_keep4 {w : World} {g o B : Nat} {u v0 v1 v2 v3 : Value} (h : g < B) (k : w.cell? ⟨B + 1, 0, none⟩ = some v0 ∧ w.cell? ⟨B + 1, 1, none⟩ = some v1 ∧ w.cell? ⟨B + 1, 2, none⟩ = some v2 ∧ w.cell? ⟨B, 2, none⟩ = some v3) : (w.setCell ⟨g, o, none⟩ u).cell? ⟨B + 1, 0, none⟩ = some v0 ∧ (w.setCell ⟨g, o, none⟩ u).cell? ⟨B + 1, 1, none⟩ = some v1 ∧ (w.setCell ⟨g, o, none⟩ u).cell? ⟨B + 1, 2, none⟩ = some v2 ∧ (w.setCell ⟨g, o, none⟩ u).cell? ⟨B, 2, none⟩ = some v3 := by
  refine ⟨?_, ?_, ?_, ?_⟩
  · rw [World.cell?_setCell_other _ _ _ _ (by simp <;> omega)]; exact k.1
  · rw [World.cell?_setCell_other _ _ _ _ (by simp <;> omega)]; exact k.2.1
  · rw [World.cell?_setCell_other _ _ _ _ (by simp <;> omega)]; exact k.2.2.1
  · rw [World.cell?_setCell_other _ _ _ _ (by simp <;> omega)]; exact k.2.2.2
/-- A call that returns a row of shards. -/
def RetShs (F : List (Int × Int × List SEdgeR)) (w : World) (en : Ending) (w' : World) : Prop := ∃ r : Row ShardR, en = .returned (.slice r.a r.n r.c) ∧ datShardS r = F ∧ OwnShardS w.heap.size w'.heap.size w' r ∧ bulkShardS r ≤ 1048576 ∧ Below w.heap.size w w'
theorem RetShs.nil (w w' : World) (hb : Below w.heap.size w w') : RetShs [] w (.returned (.slice none 0 0)) w' :=
  ⟨⟨none, 0, 0, []⟩, rfl, rfl, ⟨((OwnN.nil _ _ _ _ _ _ _ _ w).below hb).grow hb.size (Nat.le_refl _)⟩, by unfold bulkShardS preShard; simp, hb⟩
set_option maxRecDepth 100000 in
set_option maxHeartbeats 6400000 in
theorem shards_impl_y (n : Int) (a : Option Addr) (m cap : Nat) (xs : List EdgeR) (a2 : Option Addr) (m2 cap2 : Nat) (es : List Int) (size : Int) (w : World) (h : Rd encEdge 3 w a m cap xs) (h' : Rd (encI .i64) 1 w a2 m2 cap2 es) (hm2 : m2 ≤ 1048576) (hz : In64 size) (hg : graphB n xs = true) (he : endsB n es = true) (hs : 1 ≤ size) :
    Calls Try.prog 29 #[.agg #[.int .i64 n, .slice a m cap], .slice a2 m2 cap2, .int .i64 size] w fun e w' => RetShs (shardsF n xs es size) w e w' := by
  have hL := Lib.hid h.len
  have hL2 := Lib.hid h'.len
  have hm := h.max
  have hle := h.le
  unfold maxLen at hm
  have hb0 := (Below.refl w.heap.size w).alloc (Nat.le_refl _) (.cells #[.int .i64 n, .slice a m cap] 52)
  obtain ⟨q1, q2, q3, q4⟩ := graphB_yes hg
  have HIN := Lib.hid (sorted_in hg he hs)
  have HR := Lib.hid (shardsF_yes hg he hs)
  have HG := Lib.hid hg
  have HE := Lib.hid he
  have hel := ends_len he
  have HSL := Lib.hid (sorted_len es xs hs)
  have HSO := Lib.hid (show sortedOf es xs size = mergeF (batF (recsTo es xs m) size) from by unfold sortedOf; rw [hL.out])
  rw [hL2.out] at hel
  rw [hL.out] at q3
  have hs1 : ¬ size < 1 := by omega
  clear hg he q4
  generalize sortedOf es xs size = S at *
  obtain ⟨i0, hi, hz0, hz1, hz2⟩ := info_parts infoRec
  go_enter Try.func29, Try.ntmps29
  go_wp2_with fail
  refine (graphOk_impl n a m cap xs _ (h.below hb0 (Nat.le_refl _))).mono ?_
  rintro e w1 ⟨rfl, hb1⟩
  rw [HG.out]
  obtain ⟨hc, hf⟩ := bcell hb1
  have c0 : w1.cell? ⟨w.heap.size, 0, none⟩ = some (.int .i64 n) := by rw [hc _ _ (by simp)]; simp [go_sem]
  have c1 : w1.cell? ⟨w.heap.size, 1, none⟩ = some (.slice a m cap) := by rw [hc _ _ (by simp)]; simp [go_sem]
  have BB1 := hb0.trans (hb1.mono (by simp))
  have sz1 : w.heap.size < w1.heap.size := by have := hb1.size; simp at this; omega
  clear hc hf hb1
  go_wp2_with fail
  refine (endsOk_impl n a2 m2 cap2 es _ (h'.below BB1 (Nat.le_refl _))).mono ?_
  rintro e w2 ⟨rfl, hb2⟩
  rw [HE.out]
  have d1 := cell_later hb2 c1
  have BB2 := BB1.trans (hb2.mono BB1.size)
  have sz2 : w.heap.size < w2.heap.size := Nat.lt_of_lt_of_le sz1 hb2.size
  clear c0 c1 hb2 BB1 sz1
  have hown1 : w2.ownsRow w2.heap.size 41 3 (.slice none 0 0) 0 ((recsTo es xs 0).flatMap encRec) := World.ownsRow_nil _ _ _ _
  go_wp2
  go_loopw [7, 35] (fun r i wr => ∃ (k : Nat) (A : Option Addr) (C : Nat), k ≤ m ∧ r = .slice A k C ∧ i = .int .i64 k ∧ wr.ownsRow w2.heap.size 41 3 (.slice A k C) k ((recsTo es xs k).flatMap encRec) ∧ Below w2.heap.size w2 wr) (fun _ i _ => m - (intOf i).toNat)
  case atStart => exact ⟨0, none, 0, Nat.zero_le _, rfl, rfl, hown1, Below.refl _ _⟩
  case round =>
    obtain ⟨k, A, C, hk, rfl, rfl, ho, hb⟩ := hrel
    clear hown1
    by_cases hlt : k < m
    · obtain ⟨b1, off1, rfl, hbl1, hc1⟩ := h.edges (by omega)
      have cb : ∀ o, wr.cell? ⟨b1, o, none⟩ = w.cell? ⟨b1, o, none⟩ := fun o => (hb.cell (p := ⟨b1, o, none⟩) (Nat.lt_of_lt_of_le hbl1 BB2.size)).trans (BB2.cell (p := ⟨b1, o, none⟩) hbl1)
      obtain ⟨k0, k1, k2⟩ := hc1 k hlt
      rw [← cb] at k0 k1 k2
      have HS := Lib.hid (recsTo_succ es xs k)
      have HRO := Lib.hid (show recOf es xs k = ⟨ivI es (edgeAt xs k).to, (edgeAt xs k).fr, k⟩ from rfl)
      have hi1 : (k : Int) < (m : Int) := by omega
      have RD' := h'.below (BB2.trans (hb.mono BB2.size)) (Nat.le_refl _)
      have hal := (Below.refl wr.heap.size wr).alloc (Nat.le_refl _) (.cells #[.int .i64 (edgeAt xs k).fr, .int .i64 (edgeAt xs k).to, .int .i64 (edgeAt xs k).wt] 81)
      clear hc1 cb h
      generalize edgeAt xs k = x at *
      have x0 : (wr.alloc (.cells #[.int .i64 x.fr, .int .i64 x.to, .int .i64 x.wt] 81)).cell? ⟨wr.heap.size, 0, none⟩ = some (.int .i64 x.fr) := by simp [go_sem]
      have x1 : (wr.alloc (.cells #[.int .i64 x.fr, .int .i64 x.to, .int .i64 x.wt] 81)).cell? ⟨wr.heap.size, 1, none⟩ = some (.int .i64 x.to) := by simp [go_sem]
      go_wp2_with fail
      generalize wr.alloc (.cells #[.int .i64 x.fr, .int .i64 x.to, .int .i64 x.wt] 81) = wb at *
      have RD2 := RD'.below hal (Nat.le_refl _)
      have hobr := Lib.hid (fun q hq => (World.ownsRow.lt ho q hq))
      have ho2 := own_below ho hal (Nat.le_refl _)
      have hszb := hal.size
      have hsz2 := hb.size
      have hx1 := World.block_lt_of_cell? _ _ x0
      simp only at hx1
      go_region_held3 (fun w' => w'.cell? ⟨wr.heap.size, 0, none⟩ = some (.int .i64 x.fr) ∧ w'.cell? ⟨wr.heap.size, 1, none⟩ = some (.int .i64 x.to) ∧ Below w2.heap.size wb w')
        (first | assumption | exact keepd2 (by assumption) | exact keep2 ((Below.refl _ _).alloc (Nat.le_refl _) _) (Nat.le_trans hsz2 hszb) (by assumption) | exact keep2 (by assumption) (Nat.le_trans hsz2 hszb) (by assumption) | exact ⟨x0, x1, (Below.refl _ _).drew⟩)
        (first
        | (go_at_call 57; refine (intervalOf_impl x.to a2 m2 cap2 es _ (by first | exact RD2 | exact RD2.below (Below.refl _ _).drew (Nat.le_refl _))).mono ?_; rintro e wa ⟨rfl, hba⟩)
        | (refine step_app_any (by rfl) _ _ _ (by rfl) w2.heap.size 41 Try.underlying24 hi hz0 hz1 hz2 rfl (by decide) A k C ((recsTo es xs k).flatMap encRec) (by rfl) (own_below (own_below ho2 ((Below.refl _ _).drew) (Nat.le_refl _)) (hba.trans (((Below.refl wa.heap.size wa).alloc (Nat.le_refl _) (.cells #[.int .i64 (ivI es x.to), .int .i64 x.fr, .int .i64 k] 41)).mono hba.size)) (Nat.le_refl _)) (some ⟨wa.heap.size, 0, none⟩) 1 1 (encRec ⟨ivI es x.to, x.fr, k⟩) (by rfl) (by rfl) (fun ad had => by cases had; exact World.news_of_block (heap_alloc_new wa (.cells #[.int .i64 (ivI es x.to), .int .i64 x.fr, .int .i64 k] 41))) (fun ha => by cases ha) (one_enc _) (by unfold maxLen; omega) (by omega) (by have := hba.size; simp at this ⊢; omega) ?_; intro A4 C4 w4 ho4 hg4
           have hS : w4.cell? ⟨wr.heap.size, 0, none⟩ = some (.int .i64 x.fr) ∧ w4.cell? ⟨wr.heap.size, 1, none⟩ = some (.int .i64 x.to) ∧ Below w2.heap.size wb w4 := by
             have hla := hba.trans (((Below.refl wa.heap.size wa).alloc (Nat.le_refl _) (.cells #[.int .i64 (ivI es x.to), .int .i64 x.fr, .int .i64 k] 41)).mono hba.size)
             have hls := hla.size
             have hne : some wr.heap.size ≠ (Value.slice A k C).ownBlock := fun e1 => Nat.lt_irrefl _ (hobr.out _ e1.symm).2
             refine ⟨hg4.cell (cell_later hla x0) hne, hg4.cell (cell_later hla x1) hne, ?_⟩
             exact ((Below.refl _ _).drew.trans (hla.mono (Nat.le_trans hsz2 hszb))).trans (below_grown hg4 (Nat.le_trans (Nat.le_trans hsz2 hszb) hls) (fun q hq => (hobr.out q hq).1))))
      all_goals
        have hS4 : w4.cell? ⟨wr.heap.size, 0, none⟩ = some (.int .i64 x.fr) ∧ w4.cell? ⟨wr.heap.size, 1, none⟩ = some (.int .i64 x.to) ∧ Below w2.heap.size wb w4 := by assumption
        have hB4 := (hb.trans (hal.mono hsz2)).trans hS4.2.2
        have HO4 := Lib.hid (show w4.ownsRow w2.heap.size 41 3 (.slice A4 (k + 1) C4) (k + 1) ((recsTo es xs (k + 1)).flatMap encRec) from by rw [HS.out, HRO.out, List.flatMap_append]; simpa using ho4)
        clear ho4 hg4 hS4 hba ho2 hobr
        go_wp2
        go_roundw
        case rel => exact ⟨k + 1, A4, C4, by omega, rfl, by go_num, HO4.out, hB4⟩
        case measure => simp [intOf]; omega
    · obtain rfl : k = m := by omega
      obtain ⟨w3, hw3⟩ : ∃ w3, w3 = wr := ⟨_, rfl⟩
      subst hw3
      obtain ⟨j0, ji, jz0, jz1, jz2⟩ := info_parts infoShardB
      have hsz3 : w2.heap.size ≤ w3.heap.size := hb.size
      have HO := Lib.hid ho
      have HB3 := Lib.hid (BB2.trans (hb.mono BB2.size))
      have hs3 := HB3.out.size
      have d3 := cell_later (hb.mono (Nat.le_refl _)) d1
      have hI0 : Hid (ShInv w3.heap.size w3 ⟨none, 0, 0, []⟩ (dealtTo es xs [] 0)) := Lib.hid ⟨⟨OwnN.nil _ _ _ _ _ _ _ _ _⟩, rfl⟩
      clear ho hb BB2 hi hz0 hz1 hz2 d1
      go_wp2
      go_loopw [10, 54] (fun out i wr => ∃ (q : Nat) (y : Row ShardR), q ≤ m2 ∧ out = .slice y.a y.n y.c ∧ i = .int .i64 q ∧ Hid (ShInv w3.heap.size wr y (dealtTo es xs [] q)) ∧ Hid (∀ x ∈ y.l, x.edgesA = none) ∧ Below w3.heap.size w3 wr) (fun _ i _ => m2 - (intOf i).toNat)
      case atStart => exact ⟨0, ⟨none, 0, 0, []⟩, Nat.zero_le _, rfl, rfl, hI0, Lib.hid (fun x hx => by cases hx), Below.refl _ _⟩
      case round =>
        obtain ⟨q, ⟨yA, yN, yC, yL⟩, hq, rfl, rfl, HI, HX, hbq⟩ := hrel
        clear hI0
        by_cases hlt : q < m2
        · have hyn : yN ≤ q := by have := HI.out.n; rw [len_dealtTo] at this; exact Nat.le_of_eq this
          have hqi : (q : Int) < (m2 : Int) := by omega
          have HD := Lib.hid (dealtTo_succ es xs [] q)
          obtain ⟨lo, hv, hsp⟩ : ∃ lo hv, spanI es q = (lo, hv) := ⟨_, _, rfl⟩
          have HSP := Lib.hid hsp
          have HSH := Lib.hid (show shardOf es xs [] q = (lo, hv, []) from by unfold shardOf; rw [hsp]; rfl)
          have RD' := h'.below (HB3.out.trans (hbq.mono hs3)) (Nat.le_refl _)
          have hszq := hbq.size
          clear hsp
          go_wp2_with fail
          refine (span_impl q a2 m2 cap2 es _ RD').mono ?_
          rintro e w4 ⟨rfl, hb4⟩
          have hal := (Below.refl w4.heap.size w4).alloc (Nat.le_refl _) (.cells #[.int .i64 lo, .int .i64 hv, .slice none 0 0] 86)
          have hbW := hb4.trans (hal.mono hb4.size)
          have HW := Lib.hid (HI.out.below hbW)
          have hs4 := hbW.size
          simp only [HSP.out]
          go_wp2_with (at_builtin; refine app_two rfl _ _ 48 rfl w3.heap.size 86 Try.underlying48 ji jz0 jz1 jz2 rfl (by decide) yA yN yC (yL.flatMap encShard) rfl (HW.out.own.nest.row.own) ⟨w4.heap.size, 0, none⟩ 1 1 (encShard ⟨lo, hv, none, 0, 0, []⟩) rfl rfl ?c1 (oneShardV _) (by decide) ?c2 ?c3 ?c4 ?_)
          case c1 => exact World.news_of_block (heap_alloc_new w4 (.cells #[.int .i64 lo, .int .i64 hv, .slice none 0 0] 86))
          case c2 => unfold maxLen; omega
          case c3 => omega
          case c4 => simp at hs4 ⊢; omega
          intro A2 C2 w5 ho5 hg5 hnew5
          have HN := Lib.hid (HW.out.snoc ⟨lo, hv, none, 0, 0, []⟩ A2 C2 ⟨rfl, World.ownsRow_nil _ _ _ _, fun g hg => by simp [Value.ownBlock] at hg, Nat.le_refl _, Nat.zero_le _⟩ ho5 hg5 (by simpa using hnew5) (by simp; omega) (fun g hg => by simp [Value.ownBlock] at hg))
          rw [show dealtTo es xs [] q ++ [datShard ⟨lo, hv, none, 0, 0, []⟩] = dealtTo es xs [] (q + 1) from by rw [HD.out, HSH.out]; rfl] at HN
          have hrl := Lib.hid (fun g hg => (World.ownsRow.lt HI.out.own.nest.row.own g hg))
          have HB := Lib.hid ((hbq.trans (hbW.mono hszq)).trans (below_grown hg5 (Nat.le_trans hszq hs4) (fun g hg => (hrl.out g hg).1)))
          clear ho5 hg5 hnew5 hrl HW hbW hal hb4 HI
          go_wp2
          go_roundw
          case rel => exact ⟨q + 1, ⟨A2, yN + 1, C2, yL ++ [⟨lo, hv, none, 0, 0, []⟩]⟩, by omega, rfl, by go_num, HN, Lib.hid (by
            intro x hx
            have hx2 : x ∈ yL ++ [⟨lo, hv, none, 0, 0, []⟩] := hx
            rcases List.mem_append.1 hx2 with h1 | h1
            · exact HX.out x h1
            · rw [List.mem_singleton.1 h1]), HB.out⟩
          case measure => simp [intOf]; omega
        · obtain ⟨w4, hw4⟩ : ∃ w4, w4 = wr := ⟨_, rfl⟩
          subst hw4
          have hyn : yN ≤ q := by have := HI.out.n; rw [len_dealtTo] at this; exact Nat.le_of_eq this
          have hyn2 : q ≤ yN := by have := HI.out.n; rw [len_dealtTo] at this; exact Nat.le_of_eq this.symm
          have HRR : rdRecS w4 ⟨A, k, C, recsTo es xs k⟩ := Rd.of_own (fun x _ => lenRec x) (own_below HO.out hbq (Nat.le_refl _)) (len_recsTo _ _ _)
          have hs4 := hbq.size
          obtain ⟨i1, gi, gz0, gz1, gz2⟩ := info_parts infoSEdge
          clear ji jz0 jz1 jz2
          go_wp2_with fail
          refine (sortAll_impl_k ⟨A, k, C, recsTo es xs k⟩ _ rfl size _ HRR (by show k ≤ 1048576; omega) hz).mono ?_
          rintro e w5 ⟨⟨zA, zN, zC, zL⟩, rfl, hdz, hoz, hkz, hb5⟩
          have hzS : zL = S := by rw [HSO.out]; exact hdz
          have hzn : zN = k := by have := hoz.row.len; simp only at this; rw [← this, hzS, HSL.out, hL.out]
          subst hzS
          subst hzn
          have HOZ := Lib.hid hoz
          have HGY := Lib.hid (fun g (hg : (Value.slice yA yN yC).ownBlock = some g) => (⟨(World.ownsRow.lt HI.out.own.nest.row.own g hg).1, HI.out.own.nest.row.lt g hg⟩ : w3.heap.size ≤ g ∧ g < w4.heap.size))
          have hs5 := hb5.size
          have B5 := hbq.trans (hb5.mono hs4)
          have HI5 : Hid (ShInv w3.heap.size w5 ⟨yA, yN, yC, yL⟩ (dealtTo es xs (zL.take 0) q)) := Lib.hid (HI.out.below hb5)
          have HX5 : Hid (∀ x ∈ yL, ∀ g, blkR (slShard x) = some g → w5.heap.size ≤ g) := Lib.hid (fun x hx g hg => by
            have := HX.out x hx
            unfold blkR slShard at hg
            simp only [this] at hg
            cases hg)
          clear HI HX HRR hdz hoz hkz
          go_wp2
          go_loopw [74] (fun i wr => ∃ (t : Nat) (yl : List ShardR), t ≤ zN ∧ i = .int .i64 t ∧ Hid (ShInv w3.heap.size wr ⟨yA, yN, yC, yl⟩ (dealtTo es xs (zL.take t) q)) ∧ Hid (∀ x ∈ yl, ∀ g, blkR (slShard x) = some g → w5.heap.size ≤ g) ∧ Win w3.heap.size w4.heap.size w5 wr) (fun i _ => zN - (intOf i).toNat)
          case atStart => exact ⟨0, yL, Nat.zero_le _, rfl, HI5, HX5, Win.refl _ _ _⟩
          case round =>
            obtain ⟨t, yl, ht, rfl, HI, HX, hW⟩ := hrel
            clear HI5 HX5
            have BW3 := B5.trans (hW.below (Nat.le_refl _) (Nat.le_trans hs4 hs5))
            have BW := HB3.out.trans (BW3.mono hs3)
            by_cases htl : t < zN
            · have hti : (t : Int) < (zN : Int) := by omega
              have hzl : zL.length = zN := HOZ.out.row.len
              have RZ : Rd encRec 3 wr zA zN zC zL := (HOZ.out.win hW (Or.inl (Nat.le_refl _))).rd
              obtain ⟨bz, offz, rfl, hblz, hcz⟩ := RZ.rowRec (by omega)
              obtain ⟨z0, z1, z2⟩ := hcz t htl
              have hmem := HIN.out (atRec zL t) (by rw [atRec_eq zL t (by omega)]; exact List.getElem_mem _)
              have HTK := Lib.hid (show zL.take (t + 1) = zL.take t ++ [atRec zL t] from by rw [List.take_succ_eq_append_getElem (by omega), atRec_eq zL t (by omega)])
              obtain ⟨⟨p, hp, hpN⟩, ⟨c, hc, hcN⟩⟩ := hmem
              have HSE := Lib.hid (show sedgeOf xs (atRec zL t) = ⟨(edgeAt xs c).fr, (edgeAt xs c).to, (edgeAt xs c).wt, c, 0⟩ from by unfold sedgeOf; rw [hc, Int.toNat_natCast])
              have HST := Lib.hid (dealtTo_set es xs (zL.take t) q p (atRec zL t) hp)
              generalize atRec zL t = r at *
              obtain ⟨ra, rb, rc⟩ := r
              simp only at hp hc z0 z1 z2
              subst hp
              subst hc
              rw [hL2.out] at hpN
              rw [hL.out] at hcN
              obtain ⟨b1, off1, rfl, hbl1, hc1⟩ := h.edges (by omega)
              obtain ⟨k0, k1, k2⟩ := hc1 c hcN
              have cb : ∀ o, wr.cell? ⟨b1, o, none⟩ = w.cell? ⟨b1, o, none⟩ := fun o => BW.cell (p := ⟨b1, o, none⟩) hbl1
              rw [← cb] at k0 k1 k2
              replace d3 := cell_lt BW3 d3 (by omega)
              clear hcz hc1 cb
              generalize edgeAt xs c = x at *
              have hyl : yl.length = yN := HI.out.own.nest.row.len
              obtain ⟨gy, rfl⟩ := own_some HI.out.own.nest.row.own (by show 0 < yN; omega)
              obtain ⟨bb, ob, hA1, hbly, hcy⟩ := (HI.out.own.rd).1.rowShard (by show 0 < yN; omega)
              cases hA1
              obtain ⟨s0, s1, s2⟩ := hcy p (by show p < yN; omega)
              simp only [Nat.zero_add] at s0 s1 s2
              have hpl : p < yl.length := by omega
              rw [atShard_eq yl p hpl] at s0 s1 s2
              have hdp : (spanI es p).1 = yl[p].lo ∧ (spanI es p).2 = yl[p].hi ∧ innerOf xs p (zL.take t) = yl[p].edges := by
                have hd : (datShardS ⟨some ⟨gy, 0, none⟩, yN, yC, yl⟩)[p]? = some (datShard yl[p]) := by unfold datShardS; rw [List.getElem?_map, List.getElem?_eq_getElem hpl]; rfl
                rw [HI.out.dat] at hd
                obtain ⟨h3, h4⟩ := List.getElem?_eq_some_iff.1 hd
                rw [dealtTo_get] at h4
                unfold shardOf datShard at h4
                simp only [Prod.mk.injEq] at h4
                exact h4
              have HDP := Lib.hid hdp
              have hlenp : yl[p].edgesN ≤ 400 := by
                have h1 : yl[p].edges.length = yl[p].edgesN := (HI.out.own.nest.inner p hpl).len
                have h2 := len_innerOf xs p (zL.take t)
                rw [hdp.2.2, List.length_take] at h2
                omega
              have hIp := Lib.hid (HI.out.own.nest.inner p hpl)
              have hXp := Lib.hid (HX.out yl[p] (List.getElem_mem hpl))
              clear hdp hcy
              generalize hxp : yl[p] = v at *
              have HV := Lib.hid hxp
              obtain ⟨vl, vh, vA, vN, vC, ve⟩ := v
              simp only at s0 s1 s2 hlenp
              have hgy := HGY.out gy rfl
              have hal := ((Below.refl wr.heap.size wr).alloc (Nat.le_refl _) (.cells #[.int .i64 p, .int .i64 rb, .int .i64 c] 41)).alloc (by simp) (.cells #[.int .i64 x.fr, .int .i64 x.to, .int .i64 x.wt] 81)
              have r2 : ((wr.alloc (.cells #[.int .i64 p, .int .i64 rb, .int .i64 c] 41)).alloc (.cells #[.int .i64 x.fr, .int .i64 x.to, .int .i64 x.wt] 81)).cell? ⟨wr.heap.size, 2, none⟩ = some (.int .i64 c) := by simp [go_sem]
              have e0 : ((wr.alloc (.cells #[.int .i64 p, .int .i64 rb, .int .i64 c] 41)).alloc (.cells #[.int .i64 x.fr, .int .i64 x.to, .int .i64 x.wt] 81)).cell? ⟨wr.heap.size + 1, 0, none⟩ = some (.int .i64 x.fr) := by simp [go_sem]
              have e1 : ((wr.alloc (.cells #[.int .i64 p, .int .i64 rb, .int .i64 c] 41)).alloc (.cells #[.int .i64 x.fr, .int .i64 x.to, .int .i64 x.wt] 81)).cell? ⟨wr.heap.size + 1, 1, none⟩ = some (.int .i64 x.to) := by simp [go_sem]
              have e2 : ((wr.alloc (.cells #[.int .i64 p, .int .i64 rb, .int .i64 c] 41)).alloc (.cells #[.int .i64 x.fr, .int .i64 x.to, .int .i64 x.wt] 81)).cell? ⟨wr.heap.size + 1, 2, none⟩ = some (.int .i64 x.wt) := by simp [go_sem]
              have sv := cell_later hal s2
              have hal1 := (Below.refl wr.heap.size wr).alloc (Nat.le_refl _) (.cells #[.int .i64 p, .int .i64 rb, .int .i64 c] 41)
              have d3b := cell_later hal1 d3
              have k0b := cell_later hal1 k0
              have k1b := cell_later hal1 k1
              have k2b := cell_later hal1 k2
              have hszr := hal.size
              have hs5r := hW.size
              go_wp2_with fail
              generalize (wr.alloc (.cells #[.int .i64 p, .int .i64 rb, .int .i64 c] 41)).alloc (.cells #[.int .i64 x.fr, .int .i64 x.to, .int .i64 x.wt] 81) = wB at *
              have hld : Below wB.heap.size wB ((wB.alloc (.cells #[.int .i64 x.fr, .int .i64 x.to, .int .i64 x.wt, .int .i64 c, .int .i64 0] 88)).drew) := ((Below.refl _ _).alloc (Nat.le_refl _) _).drew
              have hlB := hal.trans (hld.mono hszr)
              have HIL := Lib.hid (HI.out.below hlB)
              have hin := HIL.out.own.nest.inner p hpl
              rw [HV.out] at hin
              have HIN2 := Lib.hid hin
              have hap := HIL.out.own.nest.apart p hpl
              rw [HV.out] at hap
              have HAP := Lib.hid hap
              have hsl := hlB.size
              have svl := cell_later ((Below.refl wB.heap.size wB).alloc (Nat.le_refl _) (.cells #[.int .i64 x.fr, .int .i64 x.to, .int .i64 x.wt, .int .i64 c, .int .i64 0] 88)) sv
              clear hal1 d3b k0b k1b k2b hin hap s0 s1 s2 k0 k1 k2 z0 z1 z2
              have hSl : ((wB.alloc (.cells #[.int .i64 x.fr, .int .i64 x.to, .int .i64 x.wt, .int .i64 c, .int .i64 0] 88)).drew).cell? ⟨wr.heap.size + 1, 0, none⟩ = some (.int .i64 x.fr) ∧ ((wB.alloc (.cells #[.int .i64 x.fr, .int .i64 x.to, .int .i64 x.wt, .int .i64 c, .int .i64 0] 88)).drew).cell? ⟨wr.heap.size + 1, 1, none⟩ = some (.int .i64 x.to) ∧ ((wB.alloc (.cells #[.int .i64 x.fr, .int .i64 x.to, .int .i64 x.wt, .int .i64 c, .int .i64 0] 88)).drew).cell? ⟨wr.heap.size + 1, 2, none⟩ = some (.int .i64 x.wt) ∧ ((wB.alloc (.cells #[.int .i64 x.fr, .int .i64 x.to, .int .i64 x.wt, .int .i64 c, .int .i64 0] 88)).drew).cell? ⟨wr.heap.size, 2, none⟩ = some (.int .i64 c) := ⟨cell_later hld e0, cell_later hld e1, cell_later hld e2, cell_later hld r2⟩
              have hnA : ∀ d, some (wr.heap.size + d) ≠ (Value.slice vA vN vC).ownBlock := fun d e3 => by have := hIp.out.lt _ e3.symm; omega
              have hgr : gy < wr.heap.size := by omega
              refine wp_region_held_drew (S := fun w' => w'.cell? ⟨wr.heap.size + 1, 0, none⟩ = some (.int .i64 x.fr) ∧ w'.cell? ⟨wr.heap.size + 1, 1, none⟩ = some (.int .i64 x.to) ∧ w'.cell? ⟨wr.heap.size + 1, 2, none⟩ = some (.int .i64 x.wt) ∧ w'.cell? ⟨wr.heap.size, 2, none⟩ = some (.int .i64 c)) (by kernel_rfl) ⟨e0, e1, e2, r2⟩ (fun hHeld => ?_)
              refine wpAnyH_take (i := 0) (v := ?v0) rfl (by kernel_rfl) (by kernel_rfl) (by kernel_rfl) (fun _ _ _ h => h) (Or.inl ⟨by rfl, ?h0⟩) (by assumption) ?r0
              case h0 => intro w hSw; (try dsimp only at hSw); go_simp <;> with_reducible rfl
              try simp only [Act.put, List.setIfInBounds_toArray]
              refine wpAnyH_take (i := 1) (v := ?v1) rfl (by kernel_rfl) (by kernel_rfl) (by kernel_rfl) (fun _ _ _ h => h) (Or.inl ⟨by rfl, ?h1⟩) (by assumption) ?r1
              case h1 => intro w hSw; (try dsimp only at hSw); go_simp <;> with_reducible rfl
              try simp only [Act.put]
              refine wpAnyH_take (i := 2) (v := ?v2) rfl (by kernel_rfl) (by kernel_rfl) (by kernel_rfl) (fun _ _ _ h => h) (Or.inl ⟨by rfl, ?h2⟩) (by assumption) ?r2
              case h2 => intro w hSw; (try dsimp only at hSw); go_simp <;> with_reducible rfl
              try simp only [Act.put]
              refine wpAnyH_take (i := 3) (v := ?v3) rfl (by kernel_rfl) (by kernel_rfl) (by kernel_rfl) (fun _ _ _ h => h) (Or.inl ⟨by rfl, ?h3⟩) (by assumption) ?r3
              case h3 => intro w hSw; (try dsimp only at hSw); go_simp <;> with_reducible rfl
              try simp only [Act.put]
              refine wpAnyH_take (i := 5) (v := ?v5) rfl (by kernel_rfl) (by kernel_rfl) (by kernel_rfl) (fun _ _ _ h => h) (Or.inl ⟨by rfl, ?h5⟩) (by assumption) ?r5
              case h5 => intro w hSw; (try dsimp only at hSw); go_simp <;> with_reducible rfl
              try simp only [Act.put]
              refine wpAnyH_take (i := 6) (v := ?v6) rfl (by kernel_rfl) (by kernel_rfl) (by kernel_rfl) (fun _ _ _ h => h) (Or.inl ⟨by rfl, ?h6⟩) (by assumption) ?r6
              case h6 => intro w hSw; (try dsimp only at hSw); go_simp <;> with_reducible rfl
              try simp only [Act.put]
              refine wpAnyH_take (i := 7) (v := ?v7) rfl (by kernel_rfl) (by kernel_rfl) (by kernel_rfl) (fun _ _ _ h => h) (Or.inl ⟨by rfl, ?h7⟩) (by assumption) ?r7
              case h7 => intro w hSw; (try dsimp only at hSw); go_simp <;> with_reducible rfl
              try simp only [Act.put]
              refine wpAnyH_take (i := 8) (v := ?v8) rfl (by kernel_rfl) (by kernel_rfl) (by kernel_rfl) (fun _ _ _ h => h) (Or.inl ⟨by rfl, ?h8⟩) (by assumption) ?r8
              case h8 => intro w hSw; (try dsimp only at hSw); go_simp <;> with_reducible rfl
              try simp only [Act.put]
              refine wpAnyH_take (i := 9) (v := ?v9) rfl (by kernel_rfl) (by kernel_rfl) (by kernel_rfl) (fun _ _ _ h => h) (Or.inl ⟨by rfl, ?h9⟩) (by assumption) ?r9
              case h9 => intro w hSw; (try dsimp only at hSw); go_simp <;> with_reducible rfl
              try simp only [Act.put]
              refine wpAnyH_take (i := 10) (v := ?v10) rfl (by kernel_rfl) (by kernel_rfl) (by kernel_rfl) (fun _ _ _ h => h) (Or.inl ⟨by rfl, ?h10⟩) (by assumption) ?r10
              case h10 => intro w hSw; (try dsimp only at hSw); go_simp <;> with_reducible rfl
              try simp only [Act.put]
              refine wpAnyH_take (i := 11) (v := ?v11) rfl (by kernel_rfl) (by kernel_rfl) (by kernel_rfl) (fun _ _ _ h => h) (Or.inl ⟨by rfl, ?h11⟩) (by assumption) ?r11
              case h11 => intro w hSw; (try dsimp only at hSw); go_simp <;> with_reducible rfl
              try simp only [Act.put]
              refine wpAnyH_take (i := 12) (v := ?v12) rfl (by kernel_rfl) (by kernel_rfl) (by kernel_rfl) (fun _ _ _ h => h) (Or.inl ⟨by rfl, ?h12⟩) (by assumption) ?r12
              case h12 => intro w hSw; (try dsimp only at hSw); go_simp <;> with_reducible rfl
              try simp only [Act.put]
              refine wpAnyH_take (i := 13) (v := ?v13) rfl (by kernel_rfl) (by kernel_rfl) (by kernel_rfl) (fun _ _ _ h => h) (Or.inl ⟨by rfl, ?h13⟩) (by assumption) ?r13
              case h13 => intro w hSw; (try dsimp only at hSw); go_simp <;> with_reducible rfl
              try simp only [Act.put]
              refine wpAnyH_ready (rs := [4, 14]) (by kernel_rfl) (by simp) ?_
              refine AllReadyH.cons rfl (fun K hK => ?x4) (AllReadyH.cons rfl (fun K hK => ?x14) AllReadyH.nil)
              case' x4 =>
                go_simp
                refine hK.out _ _ hHeld (fun hHeld => ?_)
                clear hK K
                try simp only [Act.put, List.setIfInBounds_toArray, List.set_cons_zero, List.set_cons_succ]
                refine wpAnyH_ready (rs := [14]) (by kernel_rfl) (by simp) ?_
                refine AllReadyH.cons rfl (fun K hK => ?_) AllReadyH.nil
                go_simp
                refine hK.out _ _ hSl (fun hHeld => ?_)
                clear hK K
                try simp only [Act.put, List.setIfInBounds_toArray, List.set_cons_zero, List.set_cons_succ]
                refine wpAnyH_ready (rs := [15]) (by kernel_rfl) (by simp) ?_
                refine AllReadyH.cons rfl (fun K hK => ?_) AllReadyH.nil
                refine step_append_lies _ (by rfl) _ _ _ (by rfl) w3.heap.size 88 i1 (.agg #[.int .i64 0, .int .i64 0, .int .i64 0, .int .i64 0, .int .i64 0]) 5 40 Try.underlying84 gi gz0 gz1 gz2 rfl (by decide) (.slice vA vN vC) vN (ve.flatMap encSEdge) (by rfl) (HIN2.out.own) ⟨wB.heap.size, 0, none⟩ 1 1 (encSEdge ⟨x.fr, x.to, x.wt, c, 0⟩) (by rfl) (by rfl) (World.news_of_block (heap_alloc_new wB (.cells #[.int .i64 x.fr, .int .i64 x.to, .int .i64 x.wt, .int .i64 c, .int .i64 0] 88))) (oneSEdgeV _) (by decide) (by unfold maxLen; omega) (by omega) (by simp at hsl ⊢; omega) _ rfl ?_; rintro g9 C9 w9 ho9 hg9 hor9 hlt9; have hro := own_keep HIL.out.own.nest.row.own (fun q hq => hg9.block q (HIL.out.own.nest.row.lt q hq) (fun e2 => HAP.out q e2.symm hq)); have hfr := hro.frozenAt (p * 3 + 2); have hcv := hg9.cell (cell_later hld sv) (fun e2 => HAP.out gy e2.symm rfl); have hS9 : w9.cell? ⟨wr.heap.size + 1, 0, none⟩ = some (.int .i64 x.fr) ∧ w9.cell? ⟨wr.heap.size + 1, 1, none⟩ = some (.int .i64 x.to) ∧ w9.cell? ⟨wr.heap.size + 1, 2, none⟩ = some (.int .i64 x.wt) ∧ w9.cell? ⟨wr.heap.size, 2, none⟩ = some (.int .i64 c) := ⟨hg9.cell hSl.1 (hnA 1), hg9.cell hSl.2.1 (hnA 1), hg9.cell hSl.2.2.1 (hnA 1), hg9.cell hSl.2.2.2 (hnA 0)⟩; have hSs : ∀ u, (w9.setCell ⟨gy, p * 3 + 2, none⟩ u).cell? ⟨wr.heap.size + 1, 0, none⟩ = some (.int .i64 x.fr) ∧ (w9.setCell ⟨gy, p * 3 + 2, none⟩ u).cell? ⟨wr.heap.size + 1, 1, none⟩ = some (.int .i64 x.to) ∧ (w9.setCell ⟨gy, p * 3 + 2, none⟩ u).cell? ⟨wr.heap.size + 1, 2, none⟩ = some (.int .i64 x.wt) ∧ (w9.setCell ⟨gy, p * 3 + 2, none⟩ u).cell? ⟨wr.heap.size, 2, none⟩ = some (.int .i64 c) := fun u => set_keep4 hgr hS9
                refine hK.out _ _ hS9 (fun hHeld => ?_)
                clear hK K
                try simp only [Act.put, List.setIfInBounds_toArray]
                refine wpAnyH_take (i := 16) (v := ?v16a) rfl (by kernel_rfl) (by kernel_rfl) (by kernel_rfl) (fun _ _ _ h => h) (Or.inl ⟨by rfl, ?h16a⟩) (by assumption) ?r16a
                case h16a => intro w hSw; (try dsimp only at hSw); go_simp <;> with_reducible rfl
                try simp only [Act.put]
                refine wpAnyH_take (i := 17) (v := ?v17a) rfl (by kernel_rfl) (by kernel_rfl) (by kernel_rfl) (fun _ _ _ h => h) (Or.inl ⟨by rfl, ?h17a⟩) (by assumption) ?r17a
                case h17a => intro w hSw; (try dsimp only at hSw); go_simp <;> with_reducible rfl
                try simp only [Act.put]
                refine wpAnyH_ready (rs := [18]) (by kernel_rfl) (by simp) ?_
                refine AllReadyH.cons rfl (fun K hK => ?_) AllReadyH.nil
                go_simp
                refine hK.out _ _ (hSs _) (fun hHeld => ?_)
                clear hK K
                try simp only [Act.put, List.setIfInBounds_toArray, List.set_cons_zero, List.set_cons_succ]
                refine wpAnyH_done (by kernel_rfl) ?_ _
              case' x14 =>
                go_simp
                refine hK.out _ _ hSl (fun hHeld => ?_)
                clear hK K
                try simp only [Act.put, List.setIfInBounds_toArray, List.set_cons_zero, List.set_cons_succ]
                refine wpAnyH_ready (rs := [4]) (by kernel_rfl) (by simp) ?_
                refine AllReadyH.cons rfl (fun K hK => ?_) AllReadyH.nil
                go_simp
                refine hK.out _ _ hSl (fun hHeld => ?_)
                clear hK K
                try simp only [Act.put, List.setIfInBounds_toArray, List.set_cons_zero, List.set_cons_succ]
                refine wpAnyH_ready (rs := [15]) (by kernel_rfl) (by simp) ?_
                refine AllReadyH.cons rfl (fun K hK => ?_) AllReadyH.nil
                refine step_append_lies _ (by rfl) _ _ _ (by rfl) w3.heap.size 88 i1 (.agg #[.int .i64 0, .int .i64 0, .int .i64 0, .int .i64 0, .int .i64 0]) 5 40 Try.underlying84 gi gz0 gz1 gz2 rfl (by decide) (.slice vA vN vC) vN (ve.flatMap encSEdge) (by rfl) (HIN2.out.own) ⟨wB.heap.size, 0, none⟩ 1 1 (encSEdge ⟨x.fr, x.to, x.wt, c, 0⟩) (by rfl) (by rfl) (World.news_of_block (heap_alloc_new wB (.cells #[.int .i64 x.fr, .int .i64 x.to, .int .i64 x.wt, .int .i64 c, .int .i64 0] 88))) (oneSEdgeV _) (by decide) (by unfold maxLen; omega) (by omega) (by simp at hsl ⊢; omega) _ rfl ?_; rintro g9 C9 w9 ho9 hg9 hor9 hlt9; have hro := own_keep HIL.out.own.nest.row.own (fun q hq => hg9.block q (HIL.out.own.nest.row.lt q hq) (fun e2 => HAP.out q e2.symm hq)); have hfr := hro.frozenAt (p * 3 + 2); have hcv := hg9.cell (cell_later hld sv) (fun e2 => HAP.out gy e2.symm rfl); have hS9 : w9.cell? ⟨wr.heap.size + 1, 0, none⟩ = some (.int .i64 x.fr) ∧ w9.cell? ⟨wr.heap.size + 1, 1, none⟩ = some (.int .i64 x.to) ∧ w9.cell? ⟨wr.heap.size + 1, 2, none⟩ = some (.int .i64 x.wt) ∧ w9.cell? ⟨wr.heap.size, 2, none⟩ = some (.int .i64 c) := ⟨hg9.cell hSl.1 (hnA 1), hg9.cell hSl.2.1 (hnA 1), hg9.cell hSl.2.2.1 (hnA 1), hg9.cell hSl.2.2.2 (hnA 0)⟩; have hSs : ∀ u, (w9.setCell ⟨gy, p * 3 + 2, none⟩ u).cell? ⟨wr.heap.size + 1, 0, none⟩ = some (.int .i64 x.fr) ∧ (w9.setCell ⟨gy, p * 3 + 2, none⟩ u).cell? ⟨wr.heap.size + 1, 1, none⟩ = some (.int .i64 x.to) ∧ (w9.setCell ⟨gy, p * 3 + 2, none⟩ u).cell? ⟨wr.heap.size + 1, 2, none⟩ = some (.int .i64 x.wt) ∧ (w9.setCell ⟨gy, p * 3 + 2, none⟩ u).cell? ⟨wr.heap.size, 2, none⟩ = some (.int .i64 c) := fun u => set_keep4 hgr hS9
                refine hK.out _ _ hS9 (fun hHeld => ?_)
                clear hK K
                try simp only [Act.put, List.setIfInBounds_toArray]
                refine wpAnyH_take (i := 16) (v := ?v16b) rfl (by kernel_rfl) (by kernel_rfl) (by kernel_rfl) (fun _ _ _ h => h) (Or.inl ⟨by rfl, ?h16b⟩) (by assumption) ?r16b
                case h16b => intro w hSw; (try dsimp only at hSw); go_simp <;> with_reducible rfl
                try simp only [Act.put]
                refine wpAnyH_take (i := 17) (v := ?v17b) rfl (by kernel_rfl) (by kernel_rfl) (by kernel_rfl) (fun _ _ _ h => h) (Or.inl ⟨by rfl, ?h17b⟩) (by assumption) ?r17b
                case h17b => intro w hSw; (try dsimp only at hSw); go_simp <;> with_reducible rfl
                try simp only [Act.put]
                refine wpAnyH_ready (rs := [18]) (by kernel_rfl) (by simp) ?_
                refine AllReadyH.cons rfl (fun K hK => ?_) AllReadyH.nil
                go_simp
                refine hK.out _ _ (hSs _) (fun hHeld => ?_)
                clear hK K
                try simp only [Act.put, List.setIfInBounds_toArray, List.set_cons_zero, List.set_cons_succ]
                refine wpAnyH_done (by kernel_rfl) ?_ _
              all_goals
                have hPUT := HIL.out.put2 p gy hpl ⟨vl, vh, vA, vN, vC, ve⟩ HV.out rfl (some ⟨g9, 0, none⟩) C9 ⟨x.fr, x.to, x.wt, c, 0⟩ ho9 hg9 (by
                  rcases hor9 with h9 | h9
                  · exact Or.inl h9.symm
                  · refine Or.inr (fun g hg => ?_)
                    have e1 : g9 = g := by simpa [Value.ownBlock] using hg
                    rw [← e1]
                    exact Nat.le_of_eq h9.symm) (by show vN < 1000000; omega)
                have hst := HST.out
                rw [HDP.out.1, HDP.out.2.1, HDP.out.2.2, HSE.out, ← HTK.out] at hst
                have HN := Lib.hid (show ShInv w3.heap.size (w9.setCell ⟨gy, p * 3 + 2, none⟩ (.slice (some ⟨g9, 0, none⟩) (vN + 1) C9)) ⟨some ⟨gy, 0, none⟩, yN, yC, yl.set p ⟨vl, vh, some ⟨g9, 0, none⟩, vN + 1, C9, ve ++ [⟨x.fr, x.to, x.wt, c, 0⟩]⟩⟩ (dealtTo es xs (zL.take (t + 1)) q) from by rw [← hst]; exact hPUT)
                have HXN := Lib.hid (show ∀ y ∈ yl.set p ⟨vl, vh, some ⟨g9, 0, none⟩, vN + 1, C9, ve ++ [⟨x.fr, x.to, x.wt, c, 0⟩]⟩, ∀ g, blkR (slShard y) = some g → w5.heap.size ≤ g from by
                  intro y hy g hg
                  rcases List.mem_or_eq_of_mem_set hy with h1 | h1
                  · exact HX.out y h1 g hg
                  · subst h1
                    have e1 : g9 = g := by simpa [blkR, slShard, Value.ownBlock] using hg
                    rw [← e1]
                    rcases hor9 with h9 | h9
                    · exact hXp.out g9 h9
                    · rw [h9]; exact Nat.le_trans hs5r hsl)
                have HWN := Lib.hid (((hW.trans (Win.of_below hlB)).then_below (below_grown hg9 (B := w5.heap.size) (Nat.le_trans hs5r hsl) (fun q hq => hXp.out q hq))).trans (Win.set (lo := w3.heap.size) (hi := w4.heap.size) w9 gy (p * 3 + 2) (.slice (some ⟨g9, 0, none⟩) (vN + 1) C9) hgy.1 hgy.2))
                clear hSl hS9 hSs hPUT hst ho9 hg9 hor9 hlt9 hro hfr hcv HI HX hW BW3 BW r2 e0 e1 e2 sv svl
                go_wp2
                go_roundw
                case rel => exact ⟨t + 1, _, by omega, by go_num, HN, HXN, HWN.out⟩
                case measure => simp [intOf]; omega
            · have hyl := HI.out.own.nest.row.len
              have hq2 : q = es.length := by rw [hL2.out]; omega
              have hI := HI.out
              rw [List.take_of_length_le (by have := HOZ.out.row.len; simp only at this; omega)] at hI
              rw [hq2] at hI
              have HIF := Lib.hid hI
              clear hI
              go_wp2
              go_ret
              rw [HR.out]
              exact ⟨⟨yA, yN, yC, yl⟩, rfl, HIF.out.dat, HIF.out.own.lo_le (Nat.le_trans (Nat.le_of_lt sz2) hsz3), HIF.out.bulk (by omega) (by have := HOZ.out.row.len; simp only at this; omega), BW⟩
set_option maxRecDepth 100000 in
set_option maxHeartbeats 6400000 in
theorem shards_impl (n : Int) (a : Option Addr) (m cap : Nat) (xs : List EdgeR) (a2 : Option Addr) (m2 cap2 : Nat) (es : List Int) (size : Int) (w : World) (h : Rd encEdge 3 w a m cap xs) (h' : Rd (encI .i64) 1 w a2 m2 cap2 es) (hm2 : m2 ≤ 1048576) (hz : In64 size) :
    Calls Try.prog 29 #[.agg #[.int .i64 n, .slice a m cap], .slice a2 m2 cap2, .int .i64 size] w fun e w' => RetShs (shardsF n xs es size) w e w' := by
  have hL := Lib.hid h.len
  have hL2 := Lib.hid h'.len
  have hm := h.max
  have hle := h.le
  unfold maxLen at hm
  have hb0 := (Below.refl w.heap.size w).alloc (Nat.le_refl _) (.cells #[.int .i64 n, .slice a m cap] 52)
  cases hg : graphB n xs with
  | false =>
    have HG := Lib.hid hg
    have HR := Lib.hid (shardsF_no (n := n) (xs := xs) (es := es) (size := size) (by rw [hg]; simp))
    clear hg
    go_enter Try.func29, Try.ntmps29
    go_wp2_with fail
    refine (graphOk_impl n a m cap xs _ (h.below hb0 (Nat.le_refl _))).mono ?_
    rintro e w1 ⟨rfl, hb1⟩
    rw [HG.out]
    have BB1 := hb0.trans (hb1.mono (by simp))
    go_wp2
    go_ret
    rw [HR.out]
    exact RetShs.nil _ _ BB1
  | true =>
    cases he : endsB n es with
    | false =>
      have HG := Lib.hid hg
      have HE := Lib.hid he
      have HR := Lib.hid (shardsF_no (n := n) (xs := xs) (es := es) (size := size) (by rw [he]; simp))
      clear hg he
      go_enter Try.func29, Try.ntmps29
      go_wp2_with fail
      refine (graphOk_impl n a m cap xs _ (h.below hb0 (Nat.le_refl _))).mono ?_
      rintro e w1 ⟨rfl, hb1⟩
      rw [HG.out]
      obtain ⟨hc, hf⟩ := bcell hb1
      have c0 : w1.cell? ⟨w.heap.size, 0, none⟩ = some (.int .i64 n) := by rw [hc _ _ (by simp)]; simp [go_sem]
      have BB1 := hb0.trans (hb1.mono (by simp))
      clear hc hf
      go_wp2_with fail
      refine (endsOk_impl n a2 m2 cap2 es _ (h'.below BB1 (Nat.le_refl _))).mono ?_
      rintro e w2 ⟨rfl, hb2⟩
      rw [HE.out]
      have BB2 := BB1.trans (hb2.mono BB1.size)
      go_wp2
      go_ret
      rw [HR.out]
      exact RetShs.nil _ _ BB2
    | true =>
      by_cases hs : 1 ≤ size
      · exact shards_impl_y n a m cap xs a2 m2 cap2 es size w h h' hm2 hz hg he hs
      · have HG := Lib.hid hg
        have HE := Lib.hid he
        have HR := Lib.hid (shardsF_no (n := n) (xs := xs) (es := es) (size := size) (by rintro ⟨_, _, h3⟩; exact hs h3))
        have hs1 : size < 1 := by omega
        clear hg he
        go_enter Try.func29, Try.ntmps29
        go_wp2_with fail
        refine (graphOk_impl n a m cap xs _ (h.below hb0 (Nat.le_refl _))).mono ?_
        rintro e w1 ⟨rfl, hb1⟩
        rw [HG.out]
        obtain ⟨hc, hf⟩ := bcell hb1
        have c0 : w1.cell? ⟨w.heap.size, 0, none⟩ = some (.int .i64 n) := by rw [hc _ _ (by simp)]; simp [go_sem]
        have BB1 := hb0.trans (hb1.mono (by simp))
        clear hc hf
        go_wp2_with fail
        refine (endsOk_impl n a2 m2 cap2 es _ (h'.below BB1 (Nat.le_refl _))).mono ?_
        rintro e w2 ⟨rfl, hb2⟩
        rw [HE.out]
        have BB2 := BB1.trans (hb2.mono BB1.size)
        go_wp2
        go_ret
        rw [HR.out]
        exact RetShs.nil _ _ BB2
theorem shards_impl_k (y : GraphR) (D : Int × List EdgeR) (hD : datGraph y = D) (v : Row Int) (E : List Int) (hE : datIntS v = E) (size : Int) (w : World) (g : goodGraph w y) (h' : rdIntS w v) (hn : bulkIntS v ≤ 1048576) (hz : In64 size) :
    Calls Try.prog 29 #[.agg #[.int .i64 y.n, .slice y.edgesA y.edgesN y.edgesC], .slice v.a v.n v.c, .int .i64 size] w fun e w' => RetShs (shardsF D.1 D.2 E size) w e w' := by
  subst hD
  subst hE
  exact shards_impl _ _ _ _ _ _ _ _ _ _ _ g.2.1 h' hn hz
end Go.Proofs.Ythffmjeodoinlaa

/- Shards of the reference: what it computes. -/
namespace Go.Proofs.Ythffmjeodoinlaa
open Go.RowKit
/-- A shard in a block of the call's own. -/
structure SBox (w : World) (G : Nat) (x y : Int) (A : Option Addr) (m C : Nat) : Prop where
  c0 : w.cell? ⟨G, 0, none⟩ = some (.int .i64 x)
  c1 : w.cell? ⟨G, 1, none⟩ = some (.int .i64 y)
  c2 : w.cell? ⟨G, 2, none⟩ = some (.slice A m C)
  f2 : w.frozen? ⟨G, 2, none⟩ = false
theorem SBox.lt {w : World} {G : Nat} {x y : Int} {A : Option Addr} {m C : Nat} (h : SBox w G x y A m C) : G < w.heap.size := World.block_lt_of_cell? _ _ h.c0
theorem SBox.keep {w w' : World} {G : Nat} {x y : Int} {A : Option Addr} {m C : Nat} (h : SBox w G x y A m C) (hb : w'.heap[G]? = w.heap[G]?) : SBox w' G x y A m C := by
  have c : ∀ o, w'.cell? ⟨G, o, none⟩ = w.cell? ⟨G, o, none⟩ := fun o => World.cell?_of_block (w := w) (a := ⟨G, o, none⟩) hb
  have f : ∀ o, w'.frozen? ⟨G, o, none⟩ = w.frozen? ⟨G, o, none⟩ := fun o => by unfold World.frozen?; rw [hb]
  exact ⟨(c 0).trans h.c0, (c 1).trans h.c1, (c 2).trans h.c2, (f 2).trans h.f2⟩
theorem SBox.below {w w' : World} {G : Nat} {x y : Int} {A : Option Addr} {m C : Nat} (h : SBox w G x y A m C) (hb : Below w.heap.size w w') : SBox w' G x y A m C := h.keep (hb.block G h.lt)
theorem SBox.set {w : World} {G : Nat} {x y : Int} {A : Option Addr} {m C : Nat} (h : SBox w G x y A m C) (A' : Option Addr) (m' C' : Nat) : SBox (w.setCell ⟨G, 2, none⟩ (.slice A' m' C')) G x y A' m' C' :=
  ⟨by rw [World.cell?_setCell_other _ _ _ _ (by simp)]; exact h.c0, by rw [World.cell?_setCell_other _ _ _ _ (by simp)]; exact h.c1, World.cell?_setCell_same _ _ _ h.c2, by rw [World.frozen?_setCell]; exact h.f2⟩
theorem SBox.new (w : World) (t : TypeId) (x y : Int) (A : Option Addr) (m C : Nat) : SBox (w.alloc (.cells #[.int .i64 x, .int .i64 y, .slice A m C] t)) w.heap.size x y A m C := ⟨by simp [go_sem], by simp [go_sem], by simp [go_sem], by simp [go_sem]⟩
theorem innerOf_snoc_hit (xs : List EdgeR) (q : Nat) (L : List RecR) (r : RecR) (h : r.a = (q : Int)) : innerOf xs q (L ++ [r]) = innerOf xs q L ++ [sedgeOf xs r] := innerOf_hit xs q L r h
theorem len_encSEdges (l : List SEdgeR) : (l.flatMap encSEdge).length = l.length * 5 := by
  induction l with
  | nil => simp
  | cons a r ih => rw [List.flatMap_cons, List.length_append, ih, List.length_cons, Nat.succ_mul, lenSEdge]; omega
set_option maxRecDepth 100000 in
set_option maxHeartbeats 6400000 in
theorem shards_spec_y (n : Int) (a : Option Addr) (m cap : Nat) (xs : List EdgeR) (a2 : Option Addr) (m2 cap2 : Nat) (es : List Int) (size : Int) (w : World) (h : Rd encEdge 3 w a m cap xs) (h' : Rd (encI .i64) 1 w a2 m2 cap2 es) (hm2 : m2 ≤ 1048576) (hz : In64 size) (hg : graphB n xs = true) (he : endsB n es = true) (hs : 1 ≤ size) :
    Calls Try.prog 26 #[.agg #[.int .i64 n, .slice a m cap], .slice a2 m2 cap2, .int .i64 size] w fun e w' => RetShs (shardsF n xs es size) w e w' := by
  have hL := Lib.hid h.len
  have hL2 := Lib.hid h'.len
  have hm := h.max
  have hle := h.le
  unfold maxLen at hm
  have hb0 := (Below.refl w.heap.size w).alloc (Nat.le_refl _) (.cells #[.int .i64 n, .slice a m cap] 52)
  obtain ⟨q1, q2, q3, q4⟩ := graphB_yes hg
  have HIN := Lib.hid (sorted_in hg he hs)
  have HR := Lib.hid (shardsF_yes hg he hs)
  have HG := Lib.hid hg
  have HE := Lib.hid he
  have hel := ends_len he
  have HSL := Lib.hid (sorted_len es xs hs)
  have HSO := Lib.hid (show sortedOf es xs size = mergeF (batF (recsTo es xs m) size) from by unfold sortedOf; rw [hL.out])
  rw [hL2.out] at hel
  rw [hL.out] at q3
  have hs1 : ¬ size < 1 := by omega
  clear hg he q4
  generalize sortedOf es xs size = S at *
  obtain ⟨i0, hi, hz0, hz1, hz2⟩ := info_parts infoRec
  go_enter Try.func26, Try.ntmps26
  go_wp2_with fail
  refine (graphOk_spec n a m cap xs _ (h.below hb0 (Nat.le_refl _))).mono ?_
  rintro e w1 ⟨rfl, hb1⟩
  rw [HG.out]
  obtain ⟨hc, hf⟩ := bcell hb1
  have c0 : w1.cell? ⟨w.heap.size, 0, none⟩ = some (.int .i64 n) := by rw [hc _ _ (by simp)]; simp [go_sem]
  have c1 : w1.cell? ⟨w.heap.size, 1, none⟩ = some (.slice a m cap) := by rw [hc _ _ (by simp)]; simp [go_sem]
  have BB1 := hb0.trans (hb1.mono (by simp))
  have sz1 : w.heap.size < w1.heap.size := by have := hb1.size; simp at this; omega
  clear hc hf hb1
  go_wp2_with fail
  refine (endsOk_spec n a2 m2 cap2 es _ (h'.below BB1 (Nat.le_refl _))).mono ?_
  rintro e w2 ⟨rfl, hb2⟩
  rw [HE.out]
  have d1 := cell_later hb2 c1
  have BB2 := BB1.trans (hb2.mono BB1.size)
  have sz2 : w.heap.size < w2.heap.size := Nat.lt_of_lt_of_le sz1 hb2.size
  clear c0 c1 hb2 BB1 sz1
  have hown1 : (w2.alloc (.cells #[] 41)).ownsRow w2.heap.size 41 3 (.slice (some ⟨w2.heap.size, 0, none⟩) 0 0) 0 ((recsTo es xs 0).flatMap encRec) := World.ownsRow_lit w2 #[] 0 (Nat.le_refl _) (by unfold maxLen; omega) (by simp)
  have d1b := cell_later ((Below.refl w2.heap.size w2).alloc (Nat.le_refl _) (.cells #[] 41)) d1
  go_wp2
  go_loopw [7, 36] (fun r i wr => ∃ (k : Nat) (A : Option Addr) (C : Nat), k ≤ m ∧ r = .slice A k C ∧ i = .int .i64 k ∧ wr.ownsRow w2.heap.size 41 3 (.slice A k C) k ((recsTo es xs k).flatMap encRec) ∧ Below w2.heap.size w2 wr) (fun _ i _ => m - (intOf i).toNat)
  case atStart => exact ⟨0, _, 0, Nat.zero_le _, rfl, rfl, hown1, (Below.refl _ _).alloc (Nat.le_refl _) _⟩
  case round =>
    obtain ⟨k, A, C, hk, rfl, rfl, ho, hb⟩ := hrel
    clear hown1 d1b
    by_cases hlt : k < m
    · obtain ⟨b1, off1, rfl, hbl1, hc1⟩ := h.edges (by omega)
      have cb : ∀ o, wr.cell? ⟨b1, o, none⟩ = w.cell? ⟨b1, o, none⟩ := fun o => (hb.cell (p := ⟨b1, o, none⟩) (Nat.lt_of_lt_of_le hbl1 BB2.size)).trans (BB2.cell (p := ⟨b1, o, none⟩) hbl1)
      obtain ⟨k0, k1, k2⟩ := hc1 k hlt
      rw [← cb] at k0 k1 k2
      have HS := Lib.hid (recsTo_succ es xs k)
      have HRO := Lib.hid (show recOf es xs k = ⟨ivI es (edgeAt xs k).to, (edgeAt xs k).fr, k⟩ from rfl)
      have hi1 : (k : Int) < (m : Int) := by omega
      have RD' := h'.below (BB2.trans (hb.mono BB2.size)) (Nat.le_refl _)
      have hal := (Below.refl wr.heap.size wr).alloc (Nat.le_refl _) (.cells #[.int .i64 (edgeAt xs k).fr, .int .i64 (edgeAt xs k).to, .int .i64 (edgeAt xs k).wt] 81)
      clear hc1 cb h
      generalize edgeAt xs k = x at *
      have x0 : (wr.alloc (.cells #[.int .i64 x.fr, .int .i64 x.to, .int .i64 x.wt] 81)).cell? ⟨wr.heap.size, 0, none⟩ = some (.int .i64 x.fr) := by simp [go_sem]
      have x1 : (wr.alloc (.cells #[.int .i64 x.fr, .int .i64 x.to, .int .i64 x.wt] 81)).cell? ⟨wr.heap.size, 1, none⟩ = some (.int .i64 x.to) := by simp [go_sem]
      go_wp2_with fail
      generalize wr.alloc (.cells #[.int .i64 x.fr, .int .i64 x.to, .int .i64 x.wt] 81) = wb at *
      have RD2 := RD'.below hal (Nat.le_refl _)
      have hobr := Lib.hid (fun q hq => (World.ownsRow.lt ho q hq))
      have ho2 := own_below ho hal (Nat.le_refl _)
      have hszb := hal.size
      have hsz2 := hb.size
      have hx1 := World.block_lt_of_cell? _ _ x0
      simp only at hx1
      go_region_held3 (fun w' => w'.cell? ⟨wr.heap.size, 0, none⟩ = some (.int .i64 x.fr) ∧ w'.cell? ⟨wr.heap.size, 1, none⟩ = some (.int .i64 x.to) ∧ Below w2.heap.size wb w')
        (first | assumption | exact keepd2 (by assumption) | exact keep2 ((Below.refl _ _).alloc (Nat.le_refl _) _) (Nat.le_trans hsz2 hszb) (by assumption) | exact keep2 (by assumption) (Nat.le_trans hsz2 hszb) (by assumption) | exact ⟨x0, x1, (Below.refl _ _).drew⟩)
        (first
        | (go_at_call 52; refine (intervalOf_spec x.to a2 m2 cap2 es _ (by first | exact RD2 | exact RD2.below (Below.refl _ _).drew (Nat.le_refl _))).mono ?_; rintro e wa ⟨rfl, hba⟩)
        | (refine step_app_any (by rfl) _ _ _ (by rfl) w2.heap.size 41 Try.underlying24 hi hz0 hz1 hz2 rfl (by decide) A k C ((recsTo es xs k).flatMap encRec) (by rfl) (own_below (own_below ho2 ((Below.refl _ _).drew) (Nat.le_refl _)) (hba.trans (((Below.refl wa.heap.size wa).alloc (Nat.le_refl _) (.cells #[.int .i64 (ivI es x.to), .int .i64 x.fr, .int .i64 k] 41)).mono hba.size)) (Nat.le_refl _)) (some ⟨wa.heap.size, 0, none⟩) 1 1 (encRec ⟨ivI es x.to, x.fr, k⟩) (by rfl) (by rfl) (fun ad had => by cases had; exact World.news_of_block (heap_alloc_new wa (.cells #[.int .i64 (ivI es x.to), .int .i64 x.fr, .int .i64 k] 41))) (fun ha => by cases ha) (one_enc _) (by unfold maxLen; omega) (by omega) (by have := hba.size; simp at this ⊢; omega) ?_; intro A4 C4 w4 ho4 hg4
           have hS : w4.cell? ⟨wr.heap.size, 0, none⟩ = some (.int .i64 x.fr) ∧ w4.cell? ⟨wr.heap.size, 1, none⟩ = some (.int .i64 x.to) ∧ Below w2.heap.size wb w4 := by
             have hla := hba.trans (((Below.refl wa.heap.size wa).alloc (Nat.le_refl _) (.cells #[.int .i64 (ivI es x.to), .int .i64 x.fr, .int .i64 k] 41)).mono hba.size)
             have hls := hla.size
             have hne : some wr.heap.size ≠ (Value.slice A k C).ownBlock := fun e1 => Nat.lt_irrefl _ (hobr.out _ e1.symm).2
             refine ⟨hg4.cell (cell_later hla x0) hne, hg4.cell (cell_later hla x1) hne, ?_⟩
             exact ((Below.refl _ _).drew.trans (hla.mono (Nat.le_trans hsz2 hszb))).trans (below_grown hg4 (Nat.le_trans (Nat.le_trans hsz2 hszb) hls) (fun q hq => (hobr.out q hq).1))))
      all_goals
        have hS4 : w4.cell? ⟨wr.heap.size, 0, none⟩ = some (.int .i64 x.fr) ∧ w4.cell? ⟨wr.heap.size, 1, none⟩ = some (.int .i64 x.to) ∧ Below w2.heap.size wb w4 := by assumption
        have hB4 := (hb.trans (hal.mono hsz2)).trans hS4.2.2
        have HO4 := Lib.hid (show w4.ownsRow w2.heap.size 41 3 (.slice A4 (k + 1) C4) (k + 1) ((recsTo es xs (k + 1)).flatMap encRec) from by rw [HS.out, HRO.out, List.flatMap_append]; simpa using ho4)
        clear ho4 hg4 hS4 hba ho2 hobr
        go_wp2
        go_roundw
        case rel => exact ⟨k + 1, A4, C4, by omega, rfl, by go_num, HO4.out, hB4⟩
        case measure => simp [intOf]; omega
    · obtain rfl : k = m := by omega
      obtain ⟨w3, hw3⟩ : ∃ w3, w3 = wr := ⟨_, rfl⟩
      subst hw3
      obtain ⟨j0, ji, jz0, jz1, jz2⟩ := info_parts infoShardB
      have hsz3 : w2.heap.size ≤ w3.heap.size := hb.size
      have HO := Lib.hid ho
      have HB3 := Lib.hid (BB2.trans (hb.mono BB2.size))
      have hs3 := HB3.out.size
      have d3 := cell_later (hb.mono (Nat.le_refl _)) d1
      have HRR : rdRecS w3 ⟨A, k, C, recsTo es xs k⟩ := Rd.of_own (fun x _ => lenRec x) HO.out (len_recsTo _ _ _)
      obtain ⟨i1, gi, gz0, gz1, gz2⟩ := info_parts infoSEdge
      clear ho hi hz0 hz1 hz2 d1
      go_wp2_with fail
      refine (sortAll_spec_k ⟨A, k, C, recsTo es xs k⟩ _ rfl size _ HRR (by show k ≤ 1048576; omega) hz).mono ?_
      rintro e w4 ⟨⟨zA, zN, zC, zL⟩, rfl, hdz, hoz, hkz, hb4⟩
      have hzS : zL = S := by rw [HSO.out]; exact hdz
      have hzn : zN = k := by have := hoz.row.len; simp only at this; rw [← this, hzS, HSL.out, hL.out]
      subst hzS
      subst hzn
      have HOZ := Lib.hid hoz
      have hs4 := hb4.size
      have d4 := cell_later hb4 d3
      have HB4 := Lib.hid (HB3.out.trans (hb4.mono hs3))
      have hI0 : Hid (ShInv w4.heap.size (w4.alloc (.cells #[] 86)) ⟨some ⟨w4.heap.size, 0, none⟩, 0, 0, []⟩ (dealtTo es xs zL 0)) := Lib.hid ⟨⟨⟨OwnS.of (World.ownsRow_lit w4 #[] 0 (Nat.le_refl _) (by unfold maxLen; omega) rfl) rfl (Nat.zero_le _), fun i hi => absurd hi (by simp), fun i hi => absurd hi (by simp), fun i i' hi => absurd hi (by simp)⟩⟩, rfl⟩
      clear hb HRR hdz hoz hkz hb4 d3
      go_wp2
      go_loopw [10, 59] (fun out i wr => ∃ (q : Nat) (y : Row ShardR), q ≤ m2 ∧ out = .slice y.a y.n y.c ∧ i = .int .i64 q ∧ Hid (ShInv w4.heap.size wr y (dealtTo es xs zL q)) ∧ Below w4.heap.size w4 wr) (fun _ i _ => m2 - (intOf i).toNat)
      case atStart => exact ⟨0, _, Nat.zero_le _, rfl, rfl, hI0, (Below.refl _ _).alloc (Nat.le_refl _) _⟩
      case round =>
        obtain ⟨q, ⟨yA, yN, yC, yL⟩, hq, rfl, rfl, HI, hbq⟩ := hrel
        clear hI0
        by_cases hlt : q < m2
        · have hyn : yN ≤ q := by have := HI.out.n; rw [len_dealtTo] at this; exact Nat.le_of_eq this
          have hqi : (q : Int) < (m2 : Int) := by omega
          have HD := Lib.hid (dealtTo_succ es xs zL q)
          obtain ⟨lo, hv, hsp⟩ : ∃ lo hv, spanI es q = (lo, hv) := ⟨_, _, rfl⟩
          have HSP := Lib.hid hsp
          have HSH := Lib.hid (show shardOf es xs zL q = (lo, hv, innerOf xs q zL) from by unfold shardOf; rw [hsp])
          have RD' := h'.below (HB4.out.trans (hbq.mono (Nat.le_trans hs3 hs4))) (Nat.le_refl _)
          have hszq := hbq.size
          obtain ⟨w5, hw5⟩ : ∃ w5, w5 = wr := ⟨_, rfl⟩
          subst hw5
          clear hsp
          go_wp2_with fail
          refine (span_spec q a2 m2 cap2 es _ RD').mono ?_
          rintro e w6 ⟨rfl, hb6⟩
          have HI6 := Lib.hid (HI.out.below hb6)
          have hB6 := hbq.trans (hb6.mono hszq)
          have hs6 := hB6.size
          simp only [HSP.out]
          have hbx0 : SBox (w6.alloc (.cells #[.int .i64 lo, .int .i64 hv, .slice none 0 0] 86)) w6.heap.size lo hv none 0 0 := SBox.new _ _ _ _ _ _ _
          have hal6 := (Below.refl w6.heap.size w6).alloc (Nat.le_refl _) (.cells #[.int .i64 lo, .int .i64 hv, .slice none 0 0] 86)
          clear HI hbq hb6 RD'
          go_wp2
          go_loopw [73] (fun i wr => ∃ (t : Nat) (A2 : Option Addr) (n2 C2 : Nat), t ≤ zN ∧ i = .int .i64 t ∧ SBox wr w6.heap.size lo hv A2 n2 C2 ∧ n2 = (innerOf xs q (zL.take t)).length ∧ wr.ownsRow (w6.heap.size + 1) 88 5 (.slice A2 n2 C2) n2 ((innerOf xs q (zL.take t)).flatMap encSEdge) ∧ Below w6.heap.size w6 wr) (fun i _ => zN - (intOf i).toNat)
          case atStart => exact ⟨0, none, 0, 0, Nat.zero_le _, rfl, hbx0, rfl, World.ownsRow_nil _ _ _ _, hal6⟩
          case round =>
            obtain ⟨t, A2, n2, C2, ht, rfl, hbx, hn2, ho2, hbr⟩ := hrel
            have HN2 := Lib.hid hn2
            clear hbx0 hal6 hn2
            have hzl : zL.length = zN := HOZ.out.row.len
            have hn2le : n2 ≤ 400 := by
              have h1 := len_innerOf xs q (zL.take t)
              rw [HN2.out]
              rw [List.length_take] at h1
              omega
            have BW4 := hB6.trans (hbr.mono hs6)
            have BW := HB4.out.trans (BW4.mono (Nat.le_trans hs3 hs4))
            have hsr := hbr.size
            by_cases htl : t < zN
            · have hti : (t : Int) < (zN : Int) := by omega
              have RZ : Rd encRec 3 wr zA zN zC zL := HOZ.out.rd.below BW4 (Nat.le_refl _)
              obtain ⟨bz, offz, rfl, hblz, hcz⟩ := RZ.rowRec (by omega)
              obtain ⟨z0, z1, z2⟩ := hcz t htl
              have hmem := HIN.out (atRec zL t) (by rw [atRec_eq zL t (by omega)]; exact List.getElem_mem _)
              have HTK := Lib.hid (show zL.take (t + 1) = zL.take t ++ [atRec zL t] from by rw [List.take_succ_eq_append_getElem (by omega), atRec_eq zL t (by omega)])
              obtain ⟨⟨p, hp, hpN⟩, ⟨c, hc, hcN⟩⟩ := hmem
              have HSE := Lib.hid (show sedgeOf xs (atRec zL t) = ⟨(edgeAt xs c).fr, (edgeAt xs c).to, (edgeAt xs c).wt, c, 0⟩ from by unfold sedgeOf; rw [hc, Int.toNat_natCast])
              generalize atRec zL t = r at *
              obtain ⟨ra, rb, rc⟩ := r
              simp only at hp hc z0 z1 z2
              subst hp
              subst hc
              have hal1 := (Below.refl wr.heap.size wr).alloc (Nat.le_refl _) (.cells #[.int .i64 p, .int .i64 rb, .int .i64 c] 41)
              clear hcz
              by_cases hpq : p = q
              · subst hpq
                have HIT := Lib.hid (innerOf_hit xs p (zL.take t) ⟨p, rb, c⟩ rfl)
                rw [hL.out] at hcN
                obtain ⟨b1, off1, rfl, hbl1, hc1⟩ := h.edges (by omega)
                obtain ⟨k0, k1, k2⟩ := hc1 c hcN
                have cb : ∀ o, wr.cell? ⟨b1, o, none⟩ = w.cell? ⟨b1, o, none⟩ := fun o => BW.cell (p := ⟨b1, o, none⟩) hbl1
                rw [← cb] at k0 k1 k2
                replace d4 := cell_lt BW4 d4 (by omega)
                clear hc1 cb
                generalize edgeAt xs c = x at *
                have d3b := cell_later hal1 d4
                have k0b := cell_later hal1 k0
                have k1b := cell_later hal1 k1
                have k2b := cell_later hal1 k2
                have hal := hal1.alloc (by simp) (.cells #[.int .i64 x.fr, .int .i64 x.to, .int .i64 x.wt] 81)
                obtain ⟨wB, hwB⟩ : ∃ wB, (wr.alloc (.cells #[.int .i64 p, .int .i64 rb, .int .i64 c] 41)).alloc (.cells #[.int .i64 x.fr, .int .i64 x.to, .int .i64 x.wt] 81) = wB := ⟨_, rfl⟩
                rw [hwB] at hal
                have hsB : wB.heap.size = wr.heap.size + 1 + 1 := by rw [← hwB]; simp
                have HWB := Lib.hid hwB
                have hbB := hbx.below hal
                have sv := hbB.c2
                rw [← hwB] at sv
                have hld := (Below.refl wB.heap.size wB).alloc (Nat.le_refl _) (.cells #[.int .i64 x.fr, .int .i64 x.to, .int .i64 x.wt, .int .i64 c, .int .i64 0] 88)
                have hlB := hal.trans (hld.mono hal.size)
                have hbL := hbx.below hlB
                have hoL := own_below ho2 hlB (Nat.le_refl _)
                have hrl := Lib.hid (fun g hg => World.ownsRow.lt ho2 g hg)
                have hsl := hlB.size
                have hBL := hbr.trans (hlB.mono hsr)
                have hnews : ∀ (j : Nat) (u : Value), (encSEdge ⟨x.fr, x.to, x.wt, c, 0⟩)[j]? = some u → (wB.alloc (.cells #[.int .i64 x.fr, .int .i64 x.to, .int .i64 x.wt, .int .i64 c, .int .i64 0] 88)).cell? ((⟨wr.heap.size + 1 + 1, 0, none⟩ : Addr).add j) = some u := by
                  have := World.news_of_block (heap_alloc_new wB (.cells #[.int .i64 x.fr, .int .i64 x.to, .int .i64 x.wt, .int .i64 c, .int .i64 0] 88))
                  rwa [hsB] at this
                clear hwB hbB ho2 hbx
                go_wp2_with (at_builtin; rw [HWB.out]; refine app_two rfl _ _ 84 rfl (w6.heap.size + 1) 88 Try.underlying84 gi gz0 gz1 gz2 rfl (by decide) A2 n2 C2 ((innerOf xs p (zL.take t)).flatMap encSEdge) rfl hoL ⟨wr.heap.size + 1 + 1, 0, none⟩ 1 1 (encSEdge ⟨x.fr, x.to, x.wt, c, 0⟩) rfl rfl hnews (oneSEdgeV _) (by decide) (by unfold maxLen; omega) (by omega) (by first | omega | (simp; omega)) ?_)
                intro A3 C3 w7 ho7 hg7 hnew7
                have hbx7 := hbL.keep (hg7.block w6.heap.size hbL.lt (fun e2 => by have := (hrl.out _ e2.symm).1; omega))
                have HBX := Lib.hid (hbx7.set A3 (n2 + 1) C3)
                obtain ⟨v0, v1, v2, vf⟩ := hbx7
                have HO7 := Lib.hid (own_keep ho7 (w' := w7.setCell ⟨w6.heap.size, 2, none⟩ (.slice A3 (n2 + 1) C3)) (fun g hg => Below.heap_setCell _ _ _ _ (by have := (World.ownsRow.lt ho7 g hg).1; show g ≠ w6.heap.size; omega)))
                have HB7 := Lib.hid ((hBL.trans (below_grown hg7 (B := w6.heap.size) (Nat.le_trans hsr hsl) (fun g hg => by have := (hrl.out g hg).1; omega))).setCell (p := ⟨w6.heap.size, 2, none⟩) (Nat.le_refl _) (.slice A3 (n2 + 1) C3))
                have HIN7 := Lib.hid (show innerOf xs p (zL.take (t + 1)) = innerOf xs p (zL.take t) ++ [⟨x.fr, x.to, x.wt, c, 0⟩] from by rw [HTK.out, HIT.out, HSE.out])
                clear ho7 hg7 hnew7 hnews hBL hoL hbL hlB hld hal sv d3b k0b k1b k2b hal1
                go_wp2
                go_roundw
                case rel => exact ⟨t + 1, A3, n2 + 1, C3, by omega, by go_num, HBX.out, by rw [HIN7.out, List.length_append, ← HN2.out]; rfl, by rw [HIN7.out, List.flatMap_append]; simpa using HO7.out, HB7.out⟩
                case measure => simp [intOf]; omega
              · have HMI := Lib.hid (innerOf_miss xs q (zL.take t) ⟨p, rb, c⟩ (by simp only; omega))
                have hpi : ((p : Int) == (q : Int)) = false := by simp; omega
                have HBX := Lib.hid (hbx.below hal1)
                have HO7 := Lib.hid (own_below ho2 hal1 (Nat.le_refl _))
                have HB7 := Lib.hid (hbr.trans (hal1.mono hsr))
                have HIN7 := Lib.hid (show innerOf xs q (zL.take (t + 1)) = innerOf xs q (zL.take t) from by rw [HTK.out, HMI.out])
                clear hbx ho2
                go_wp2
                go_roundw
                case rel => exact ⟨t + 1, A2, n2, C2, by omega, by go_num, HBX.out, by rw [HIN7.out, ← HN2.out], by rw [HIN7.out]; exact HO7.out, HB7.out⟩
                case measure => simp [intOf]; omega
            · rw [List.take_of_length_le (show zL.length ≤ t by omega)] at ho2 HN2
              have hti : ¬ (t : Int) < (zN : Int) := by omega
              have HIr := Lib.hid (HI6.out.below hbr)
              have hal := (Below.refl wr.heap.size wr).alloc (Nat.le_refl _) (.cells #[.int .i64 lo, .int .i64 hv, .slice A2 n2 C2] 86)
              have HW := Lib.hid (HIr.out.below hal)
              have hrl := Lib.hid (fun g hg => World.ownsRow.lt ho2 g hg)
              have hyl6 := Lib.hid (fun g hg => HI6.out.own.nest.row.lt g hg)
              have hyi6 := Lib.hid (fun i hi g hg => (HI6.out.own.nest.inner i hi).lt g hg)
              have hyrl := Lib.hid (fun g hg => (World.ownsRow.lt HI6.out.own.nest.row.own g hg).1)
              have HOI := Lib.hid (show OwnS encSEdge 5 88 w4.heap.size (wr.alloc (.cells #[.int .i64 lo, .int .i64 hv, .slice A2 n2 C2] 86)).heap.size (wr.alloc (.cells #[.int .i64 lo, .int .i64 hv, .slice A2 n2 C2] 86)) A2 n2 C2 (innerOf xs q zL) from OwnS.of (own_base (own_below ho2 hal (Nat.le_refl _)) (by omega)) HN2.out.symm (by omega))
              have hsa := hal.size
              obtain ⟨v0, v1, v2, vf⟩ := hbx
              go_wp2_with (at_builtin; refine app_two rfl _ _ 48 rfl w4.heap.size 86 Try.underlying48 ji jz0 jz1 jz2 rfl (by decide) yA yN yC (yL.flatMap encShard) rfl (HW.out.own.nest.row.own) ⟨wr.heap.size, 0, none⟩ 1 1 (encShard ⟨lo, hv, A2, n2, C2, innerOf xs q zL⟩) rfl rfl (World.news_of_block (heap_alloc_new wr (.cells #[.int .i64 lo, .int .i64 hv, .slice A2 n2 C2] 86))) (oneShardV _) (by decide) (by unfold maxLen; omega) (by omega) (by first | omega | (simp; omega)) ?_)
              intro A3 C3 w7 ho7 hg7 hnew7
              have HN := Lib.hid (HW.out.snoc ⟨lo, hv, A2, n2, C2, innerOf xs q zL⟩ A3 C3 HOI.out ho7 hg7 (by simpa using hnew7) (by simp only; omega) (fun g hg => by
                have e1 := (hrl.out g hg).1
                refine ⟨fun e2 => ?_, fun i hi e2 => ?_⟩
                · have := hyl6.out g e2; omega
                · have := hyi6.out i hi g e2; omega))
              rw [show dealtTo es xs zL q ++ [datShard ⟨lo, hv, A2, n2, C2, innerOf xs q zL⟩] = dealtTo es xs zL (q + 1) from by rw [HD.out, HSH.out]; rfl] at HN
              have HB := Lib.hid (((hB6.trans (hbr.mono hs6)).trans (hal.mono (Nat.le_trans hs6 hsr))).trans (below_grown hg7 (by omega) (fun g hg => hyrl.out g hg)))
              clear ho7 hg7 hnew7 HW hal ho2 HOI
              go_wp2
              go_roundw
              case rel => exact ⟨q + 1, ⟨A3, yN + 1, C3, yL ++ [⟨lo, hv, A2, n2, C2, innerOf xs q zL⟩]⟩, by omega, rfl, by go_num, HN, HB.out⟩
              case measure => simp [intOf]; omega
        · have hyl := HI.out.own.nest.row.len
          have hq2 : q = es.length := by rw [hL2.out]; omega
          have hI := HI.out
          rw [hq2] at hI
          have HIF := Lib.hid hI
          have BW := HB4.out.trans (hbq.mono (Nat.le_trans hs3 hs4))
          clear hI
          go_wp2
          go_ret
          rw [HR.out]
          exact ⟨⟨yA, yN, yC, yL⟩, rfl, HIF.out.dat, HIF.out.own.lo_le (by omega), HIF.out.bulk (by omega) (by have := HOZ.out.row.len; simp only at this; omega), BW⟩
set_option maxRecDepth 100000 in
set_option maxHeartbeats 6400000 in
theorem shards_spec (n : Int) (a : Option Addr) (m cap : Nat) (xs : List EdgeR) (a2 : Option Addr) (m2 cap2 : Nat) (es : List Int) (size : Int) (w : World) (h : Rd encEdge 3 w a m cap xs) (h' : Rd (encI .i64) 1 w a2 m2 cap2 es) (hm2 : m2 ≤ 1048576) (hz : In64 size) :
    Calls Try.prog 26 #[.agg #[.int .i64 n, .slice a m cap], .slice a2 m2 cap2, .int .i64 size] w fun e w' => RetShs (shardsF n xs es size) w e w' := by
  have hL := Lib.hid h.len
  have hL2 := Lib.hid h'.len
  have hm := h.max
  have hle := h.le
  unfold maxLen at hm
  have hb0 := (Below.refl w.heap.size w).alloc (Nat.le_refl _) (.cells #[.int .i64 n, .slice a m cap] 52)
  cases hg : graphB n xs with
  | false =>
    have HG := Lib.hid hg
    have HR := Lib.hid (shardsF_no (n := n) (xs := xs) (es := es) (size := size) (by rw [hg]; simp))
    clear hg
    go_enter Try.func26, Try.ntmps26
    go_wp2_with fail
    refine (graphOk_spec n a m cap xs _ (h.below hb0 (Nat.le_refl _))).mono ?_
    rintro e w1 ⟨rfl, hb1⟩
    rw [HG.out]
    have BB1 := hb0.trans (hb1.mono (by simp))
    go_wp2
    go_ret
    rw [HR.out]
    exact RetShs.nil _ _ BB1
  | true =>
    cases he : endsB n es with
    | false =>
      have HG := Lib.hid hg
      have HE := Lib.hid he
      have HR := Lib.hid (shardsF_no (n := n) (xs := xs) (es := es) (size := size) (by rw [he]; simp))
      clear hg he
      go_enter Try.func26, Try.ntmps26
      go_wp2_with fail
      refine (graphOk_spec n a m cap xs _ (h.below hb0 (Nat.le_refl _))).mono ?_
      rintro e w1 ⟨rfl, hb1⟩
      rw [HG.out]
      obtain ⟨hc, hf⟩ := bcell hb1
      have c0 : w1.cell? ⟨w.heap.size, 0, none⟩ = some (.int .i64 n) := by rw [hc _ _ (by simp)]; simp [go_sem]
      have BB1 := hb0.trans (hb1.mono (by simp))
      clear hc hf
      go_wp2_with fail
      refine (endsOk_spec n a2 m2 cap2 es _ (h'.below BB1 (Nat.le_refl _))).mono ?_
      rintro e w2 ⟨rfl, hb2⟩
      rw [HE.out]
      have BB2 := BB1.trans (hb2.mono BB1.size)
      go_wp2
      go_ret
      rw [HR.out]
      exact RetShs.nil _ _ BB2
    | true =>
      by_cases hs : 1 ≤ size
      · exact shards_spec_y n a m cap xs a2 m2 cap2 es size w h h' hm2 hz hg he hs
      · have HG := Lib.hid hg
        have HE := Lib.hid he
        have HR := Lib.hid (shardsF_no (n := n) (xs := xs) (es := es) (size := size) (by rintro ⟨_, _, h3⟩; exact hs h3))
        have hs1 : size < 1 := by omega
        clear hg he
        go_enter Try.func26, Try.ntmps26
        go_wp2_with fail
        refine (graphOk_spec n a m cap xs _ (h.below hb0 (Nat.le_refl _))).mono ?_
        rintro e w1 ⟨rfl, hb1⟩
        rw [HG.out]
        obtain ⟨hc, hf⟩ := bcell hb1
        have c0 : w1.cell? ⟨w.heap.size, 0, none⟩ = some (.int .i64 n) := by rw [hc _ _ (by simp)]; simp [go_sem]
        have BB1 := hb0.trans (hb1.mono (by simp))
        clear hc hf
        go_wp2_with fail
        refine (endsOk_spec n a2 m2 cap2 es _ (h'.below BB1 (Nat.le_refl _))).mono ?_
        rintro e w2 ⟨rfl, hb2⟩
        rw [HE.out]
        have BB2 := BB1.trans (hb2.mono BB1.size)
        go_wp2
        go_ret
        rw [HR.out]
        exact RetShs.nil _ _ BB2
theorem shards_spec_k (y : GraphR) (D : Int × List EdgeR) (hD : datGraph y = D) (v : Row Int) (E : List Int) (hE : datIntS v = E) (size : Int) (w : World) (g : goodGraph w y) (h' : rdIntS w v) (hn : bulkIntS v ≤ 1048576) (hz : In64 size) :
    Calls Try.prog 26 #[.agg #[.int .i64 y.n, .slice y.edgesA y.edgesN y.edgesC], .slice v.a v.n v.c, .int .i64 size] w fun e w' => RetShs (shardsF D.1 D.2 E size) w e w' := by
  subst hD
  subst hE
  exact shards_spec _ _ _ _ _ _ _ _ _ _ _ g.2.1 h' hn hz
end Go.Proofs.Ythffmjeodoinlaa

/- FnExactShards: the walk of the law out of the contracts of what it calls. -/
namespace Go.Proofs.Ythffmjeodoinlaa
open Go.RowKit
set_option linter.unusedVariables false in
set_option maxRecDepth 100000 in
set_option maxHeartbeats 6400000 in
theorem walk_FnExactShards (y0 : GraphR) (a1 : Option Addr) (n1 c1 : Nat) (z1 : List Int) (x2 : Int) (w : World) (g0 : goodGraph w y0) (r1 : Rd (encI .i64) 1 w a1 n1 c1 z1) (g1 : ∀ y ∈ z1, In64 y) (g2 : In64 x2) :
    Calls Try.prog 7 #[.agg #[.int .i64 y0.n, .slice y0.edgesA y0.edgesN y0.edgesC], .slice a1 n1 c1, .int .i64 x2] w fun e w' => e = .returned (.bool true) ∧ Below w.heap.size w w' := by
  by_cases hg0 : n1 ≤ 1048576
  · by_cases hg1 : bulkGraph y0 ≤ 1048576
    · have BB0 := Below.refl w.heap.size w
      have okY0 := goodGraph_ok g0
      have q1 : rdIntS w ⟨a1, n1, c1, z1⟩ := r1
      have hn0 : bulkGraph y0 ≤ 1048576 := by omega
      have hn1 : bulkIntS (⟨a1, n1, c1, z1⟩ : Row _) ≤ 1048576 := hg0
      go_enter Try.func7, Try.ntmps7
      have HL0 := Lib.hid (leftB_yes (left := 1048576) (n := bulkGraph y0) (by omega))
      have ha1 := ((Below.refl w.heap.size w).alloc (Nat.le_refl _) (.cells #[.int .i64 y0.n, .slice y0.edgesA y0.edgesN y0.edgesC] 45))
      have BP1 := BB0.trans (ha1.mono BB0.size)
      go_wp2_with fail
      refine (szGraph_k y0 _ _ (rdGraph_below (goodGraph_rd g0) BP1 (Nat.le_refl _)) (by omega) (by omega)).mono ?_
      rintro e w1 ⟨rfl, hb1⟩
      rw [HL0.out]
      have hx1 : Below w.heap.size w w1 := ha1.trans (hb1.mono ha1.size)
      have szz1 : w.heap.size + 1 ≤ w1.heap.size := by have := hb1.size; simp at this; omega
      obtain ⟨hc1, hf1⟩ := bcell hb1
      have c1_a0_0 : w1.cell? ⟨w.heap.size, 0, none⟩ = some (.int .i64 y0.n) := by rw [hc1 _ _ (by simp)]; simp [go_sem]
      have c1_a0_1 : w1.cell? ⟨w.heap.size, 1, none⟩ = some (.slice y0.edgesA y0.edgesN y0.edgesC) := by rw [hc1 _ _ (by simp)]; simp [go_sem]
      clear hc1 hf1
      have BB1 := BB0.trans (hx1.mono BB0.size)
      have sz1 := hx1.size
      go_wp2_with fail
      refine (toGraph_k y0 _ (rdGraph_below (goodGraph_rd g0) BB1 (Nat.le_refl _)) hn0).mono ?_
      rintro e w2 ⟨u0, rfl, hdu0, H2u0, hku0, hb2⟩
      have BB2 := BB1.trans (hb2.mono BB1.size)
      have sz2 := hb2.size
      have c2_a0_0 := cell_later hb2 c1_a0_0
      clear c1_a0_0
      have c2_a0_1 := cell_later hb2 c1_a0_1
      clear c1_a0_1
      have HDu0 := Lib.hid hdu0
      clear hdu0
      have oku0 := okGraph_dat okY0 HDu0.out
      go_wp2_with fail
      refine (toIntS_k (⟨a1, n1, c1, z1⟩ : Row _) _ (rdIntS_below q1 BB2 (Nat.le_refl _)) hn1).mono ?_
      rintro e w3 ⟨u1, rfl, hdu1, H3u1, hku1, hb3⟩
      have BB3 := BB2.trans (hb3.mono BB2.size)
      have sz3 := hb3.size
      have H3u0 := H2u0.below hb3
      clear H2u0
      have c3_a0_0 := cell_later hb3 c2_a0_0
      clear c2_a0_0
      have c3_a0_1 := cell_later hb3 c2_a0_1
      clear c2_a0_1
      have HDu1 := Lib.hid hdu1
      clear hdu1
      go_wp2_with fail
      refine (shards_spec_k u0 (datGraph y0) HDu0.out u1 (datIntS (⟨a1, n1, c1, z1⟩ : Row _)) HDu1.out x2 _ (H3u0.good oku0) H3u1.rd (by rw [hku1]; exact hn1) g2).mono ?_
      rintro e w4 ⟨W, rfl, hdW, H4W, hkW, hb4⟩
      have BB4 := BB3.trans (hb4.mono BB3.size)
      have sz4 := hb4.size
      have H4u0 := H3u0.below hb4
      clear H3u0
      have H4u1 := H3u1.below hb4
      clear H3u1
      have c4_a0_0 := cell_later hb4 c3_a0_0
      clear c3_a0_0
      have c4_a0_1 := cell_later hb4 c3_a0_1
      clear c3_a0_1
      have HDW := Lib.hid hdW
      clear hdW
      go_wp2_with fail
      refine (toGraph_k y0 _ (rdGraph_below (goodGraph_rd g0) BB4 (Nat.le_refl _)) hn0).mono ?_
      rintro e w5 ⟨x0, rfl, hdx0, H5x0, hkx0, hb5⟩
      have BB5 := BB4.trans (hb5.mono BB4.size)
      have sz5 := hb5.size
      have H5W := H4W.below hb5
      clear H4W
      have c5_a0_0 := cell_later hb5 c4_a0_0
      clear c4_a0_0
      have c5_a0_1 := cell_later hb5 c4_a0_1
      clear c4_a0_1
      have HDx0 := Lib.hid hdx0
      clear hdx0
      have okx0 := okGraph_dat okY0 HDx0.out
      have hl6_a0_0 := World.block_lt_of_cell? _ _ c5_a0_0
      simp only at hl6_a0_0
      have ha6 := ((Below.refl w5.heap.size w5).alloc (Nat.le_refl _) (.cells #[.int .i64 x0.n, .slice x0.edgesA x0.edgesN x0.edgesC] 52))
      have BP6 := BB5.trans (ha6.mono BB5.size)
      go_wp2_with fail
      refine (toIntS_k (⟨a1, n1, c1, z1⟩ : Row _) _ (rdIntS_below q1 BP6 (Nat.le_refl _)) hn1).mono ?_
      rintro e w6 ⟨x1, rfl, hdx1, H6x1, hkx1, hb6⟩
      have hx6 : Below w5.heap.size w5 w6 := ha6.trans (hb6.mono ha6.size)
      have szz6 : w5.heap.size + 1 ≤ w6.heap.size := by have := hb6.size; simp at this; omega
      obtain ⟨hc6, hf6⟩ := bcell hb6
      have c6_x0_0 : w6.cell? ⟨w5.heap.size, 0, none⟩ = some (.int .i64 x0.n) := by rw [hc6 _ _ (by simp)]; simp [go_sem]
      have c6_x0_1 : w6.cell? ⟨w5.heap.size, 1, none⟩ = some (.slice x0.edgesA x0.edgesN x0.edgesC) := by rw [hc6 _ _ (by simp)]; simp [go_sem]
      clear hc6 hf6
      have BB6 := BB5.trans (hx6.mono BB5.size)
      have sz6 := hx6.size
      have H6W := H5W.below hx6
      clear H5W
      have H6x0 := H5x0.below hx6
      clear H5x0
      have c6_a0_0 := cell_later hx6 c5_a0_0
      clear c5_a0_0
      have c6_a0_1 := cell_later hx6 c5_a0_1
      clear c5_a0_1
      replace H6x1 := H6x1.lo_le (lo' := w5.heap.size + 1) (by simp)
      have HDx1 := Lib.hid hdx1
      clear hdx1
      go_wp2_with fail
      refine (shards_impl_k x0 (datGraph y0) HDx0.out x1 (datIntS (⟨a1, n1, c1, z1⟩ : Row _)) HDx1.out x2 _ (H6x0.good okx0) H6x1.rd (by rw [hkx1]; exact hn1) g2).mono ?_
      rintro e w7 ⟨G, rfl, hdG, H7G, hkG, hb7⟩
      have BB7 := BB6.trans (hb7.mono BB6.size)
      have sz7 := hb7.size
      have H7W := H6W.below hb7
      clear H6W
      have H7x0 := H6x0.below hb7
      clear H6x0
      have H7x1 := H6x1.below hb7
      clear H6x1
      have c7_a0_0 := cell_later hb7 c6_a0_0
      clear c6_a0_0
      have c7_a0_1 := cell_later hb7 c6_a0_1
      clear c6_a0_1
      have c7_x0_0 := cell_later hb7 c6_x0_0
      clear c6_x0_0
      have c7_x0_1 := cell_later hb7 c6_x0_1
      clear c6_x0_1
      have HDG := Lib.hid hdG
      clear hdG
      go_wp2_with fail
      refine (eqShardS_k G W _ _ HDG.out HDW.out _ H7G.rd H7W.rd).mono ?_
      rintro e w8 ⟨rfl, hb8⟩
      have BB8 := BB7.trans (hb8.mono BB7.size)
      have sz8 := hb8.size
      have H8W := H7W.below hb8
      clear H7W
      have H8x0 := H7x0.below hb8
      clear H7x0
      have H8x1 := H7x1.below hb8
      clear H7x1
      have H8G := H7G.below hb8
      clear H7G
      have c8_a0_0 := cell_later hb8 c7_a0_0
      clear c7_a0_0
      have c8_a0_1 := cell_later hb8 c7_a0_1
      clear c7_a0_1
      have c8_x0_0 := cell_later hb8 c7_x0_0
      clear c7_x0_0
      have c8_x0_1 := cell_later hb8 c7_x0_1
      clear c7_x0_1
      go_wp2_with fail
      go_region_held3 (fun w' => w'.cell? ⟨w.heap.size, 0, none⟩ = some (.int .i64 y0.n) ∧ w'.cell? ⟨w.heap.size, 1, none⟩ = some (.slice y0.edgesA y0.edgesN y0.edgesC) ∧ w'.cell? ⟨w5.heap.size, 0, none⟩ = some (.int .i64 x0.n) ∧ w'.cell? ⟨w5.heap.size, 1, none⟩ = some (.slice x0.edgesA x0.edgesN x0.edgesC) ∧ Below w8.heap.size w8 w') (first | exact keepd4 (by assumption) | exact keep4 (by assumption) (Nat.le_refl _) (by assumption) | exact ⟨c8_a0_0, c8_a0_1, c8_x0_0, c8_x0_1, (Below.refl _ _).drew⟩) (first | (go_at_call 27; refine (toGraph_k y0 _ (rdGraph_below (goodGraph_rd g0) (BB8.trans ((tail4 (by assumption) : Below w8.heap.size w8 _).mono BB8.size)) (Nat.le_refl _)) hn0).mono ?_; rintro e wa ⟨t, rfl, hdt, Ht, hkt, hba⟩) | (go_at_call 31; refine (eqGraph_k x0 t _ _ HDx0.out hdt _ (H8x0.below (tail4 (by assumption) : Below w8.heap.size w8 _)).rd Ht.rd).mono ?_; rintro e wb ⟨rfl, hbb⟩))
      have hb9 : Below w8.heap.size w8 _ := tail4 (by assumption)
      have BB9 := BB8.trans (hb9.mono BB8.size)
      have sz9 := hb9.size
      have H9W := H8W.below hb9
      clear H8W
      have H9x0 := H8x0.below hb9
      clear H8x0
      have H9x1 := H8x1.below hb9
      clear H8x1
      have H9G := H8G.below hb9
      clear H8G
      have c9_a0_0 := cell_later hb9 c8_a0_0
      clear c8_a0_0
      have c9_a0_1 := cell_later hb9 c8_a0_1
      clear c8_a0_1
      have c9_x0_0 := cell_later hb9 c8_x0_0
      clear c8_x0_0
      have c9_x0_1 := cell_later hb9 c8_x0_1
      clear c8_x0_1
      skip
      go_wp2_with fail
      refine (toIntS_k (⟨a1, n1, c1, z1⟩ : Row _) _ (rdIntS_below q1 BB9 (Nat.le_refl _)) hn1).mono ?_
      rintro e w10 ⟨t1, rfl, hdt1, H10t1, hkt1, hb10⟩
      have BB10 := BB9.trans (hb10.mono BB9.size)
      have sz10 := hb10.size
      have H10W := H9W.below hb10
      clear H9W
      have H10x0 := H9x0.below hb10
      clear H9x0
      have H10x1 := H9x1.below hb10
      clear H9x1
      have H10G := H9G.below hb10
      clear H9G
      have c10_a0_0 := cell_later hb10 c9_a0_0
      clear c9_a0_0
      have c10_a0_1 := cell_later hb10 c9_a0_1
      clear c9_a0_1
      have c10_x0_0 := cell_later hb10 c9_x0_0
      clear c9_x0_0
      have c10_x0_1 := cell_later hb10 c9_x0_1
      clear c9_x0_1
      have HDt1 := Lib.hid hdt1
      clear hdt1
      go_wp2_with fail
      refine (eqIntS_k x1 t1 _ _ HDx1.out HDt1.out _ H10x1.rd H10t1.rd).mono ?_
      rintro e w11 ⟨rfl, hb11⟩
      have BB11 := BB10.trans (hb11.mono BB10.size)
      have sz11 := hb11.size
      have H11W := H10W.below hb11
      clear H10W
      have H11x0 := H10x0.below hb11
      clear H10x0
      have H11x1 := H10x1.below hb11
      clear H10x1
      have H11G := H10G.below hb11
      clear H10G
      have H11t1 := H10t1.below hb11
      clear H10t1
      have c11_a0_0 := cell_later hb11 c10_a0_0
      clear c10_a0_0
      have c11_a0_1 := cell_later hb11 c10_a0_1
      clear c10_a0_1
      have c11_x0_0 := cell_later hb11 c10_x0_0
      clear c10_x0_0
      have c11_x0_1 := cell_later hb11 c10_x0_1
      clear c10_x0_1
      replace hkx0 : bulkGraph x0 ≤ 1048576 := by rw [hkx0]; exact hn0
      have cn0 := cntGraph_own H11x0 hkx0
      replace hkx1 : bulkIntS x1 ≤ 1048576 := by rw [hkx1]; exact hn1
      have cn1 := cntIntS_own H11x1 hkx1
      go_wp2_with fail
      refine (markGraph_k x0 (1) _ _ _ H11x0 hkx0 (by omega) (by omega)).mono ?_
      rintro e w12 ⟨rfl, HE12x0, hb12⟩
      have BB12 := BB11.trans (hb12.below (B := w.heap.size) (by omega) BB11.size)
      have sz12 := hb12.size
      have H12W := H11W.win hb12 (by omega)
      clear H11W
      have H12x1 := H11x1.win hb12 (by omega)
      clear H11x1
      have H12G := H11G.win hb12 (by omega)
      clear H11G
      have c12_a0_0 := cell_win hb12 c11_a0_0 (by omega)
      clear c11_a0_0
      have c12_a0_1 := cell_win hb12 c11_a0_1 (by omega)
      clear c11_a0_1
      have c12_x0_0 := cell_win hb12 c11_x0_0 (by omega)
      clear c11_x0_0
      have c12_x0_1 := cell_win hb12 c11_x0_1 (by omega)
      clear c11_x0_1
      go_wp2_with fail
      refine (markIntS_k x1 (1 + (cntGraph x0 : Int)) _ _ _ H12x1 hkx1 (by omega) (by omega)).mono ?_
      rintro e w13 ⟨rfl, HE13x1, hb13⟩
      have BB13 := BB12.trans (hb13.below (B := w.heap.size) (by omega) BB12.size)
      have sz13 := hb13.size
      have H13W := H12W.win hb13 (by omega)
      clear H12W
      have H13G := H12G.win hb13 (by omega)
      clear H12G
      have c13_a0_0 := cell_win hb13 c12_a0_0 (by omega)
      clear c12_a0_0
      have c13_a0_1 := cell_win hb13 c12_a0_1 (by omega)
      clear c12_a0_1
      go_wp2_with fail
      refine (eqShardS_k G W _ _ HDG.out HDW.out _ H13G.rd H13W.rd).mono ?_
      rintro e w14 ⟨rfl, hb14⟩
      have BB14 := BB13.trans (hb14.mono BB13.size)
      have sz14 := hb14.size
      have H14W := H13W.below hb14
      clear H13W
      have H14G := H13G.below hb14
      clear H13G
      have c14_a0_0 := cell_later hb14 c13_a0_0
      clear c13_a0_0
      have c14_a0_1 := cell_later hb14 c13_a0_1
      clear c13_a0_1
      go_wp2_with fail
      refine (markShardS_k G (1) _ _ _ H14G hkG (by omega) (by omega)).mono ?_
      rintro e w15 ⟨rfl, HE15G, hb15⟩
      have BB15 := BB14.trans (hb15.below (B := w.heap.size) (by omega) BB14.size)
      have sz15 := hb15.size
      have H15W := H14W.win hb15 (by omega)
      clear H14W
      have c15_a0_0 := cell_win hb15 c14_a0_0 (by omega)
      clear c14_a0_0
      have c15_a0_1 := cell_win hb15 c14_a0_1 (by omega)
      clear c14_a0_1
      go_wp2_with fail
      refine (heldShardS_k G 1 _ HE15G (by omega) (by omega)).mono ?_
      rintro e w16 ⟨rfl, hb16⟩
      have BB16 := BB15.trans (hb16.mono BB15.size)
      have sz16 := hb16.size
      have H16W := H15W.below hb16
      clear H15W
      have H16G := HE15G.below hb16
      clear HE15G
      have c16_a0_0 := cell_later hb16 c15_a0_0
      clear c15_a0_0
      have c16_a0_1 := cell_later hb16 c15_a0_1
      clear c15_a0_1
      go_wp2_with fail
      refine (toGraph_k y0 _ (rdGraph_below (goodGraph_rd g0) BB16 (Nat.le_refl _)) hn0).mono ?_
      rintro e w17 ⟨v0, rfl, hdv0, H17v0, hkv0, hb17⟩
      have BB17 := BB16.trans (hb17.mono BB16.size)
      have sz17 := hb17.size
      have H17W := H16W.below hb17
      clear H16W
      have H17G := H16G.below hb17
      clear H16G
      have c17_a0_0 := cell_later hb17 c16_a0_0
      clear c16_a0_0
      have c17_a0_1 := cell_later hb17 c16_a0_1
      clear c16_a0_1
      have HDv0 := Lib.hid hdv0
      clear hdv0
      have okv0 := okGraph_dat okY0 HDv0.out
      go_wp2_with fail
      refine (toIntS_k (⟨a1, n1, c1, z1⟩ : Row _) _ (rdIntS_below q1 BB17 (Nat.le_refl _)) hn1).mono ?_
      rintro e w18 ⟨v1, rfl, hdv1, H18v1, hkv1, hb18⟩
      have BB18 := BB17.trans (hb18.mono BB17.size)
      have sz18 := hb18.size
      have H18W := H17W.below hb18
      clear H17W
      have H18G := H17G.below hb18
      clear H17G
      have H18v0 := H17v0.below hb18
      clear H17v0
      have c18_a0_0 := cell_later hb18 c17_a0_0
      clear c17_a0_0
      have c18_a0_1 := cell_later hb18 c17_a0_1
      clear c17_a0_1
      have HDv1 := Lib.hid hdv1
      clear hdv1
      go_wp2_with fail
      refine (shards_impl_k v0 (datGraph y0) HDv0.out v1 (datIntS (⟨a1, n1, c1, z1⟩ : Row _)) HDv1.out x2 _ (H18v0.good okv0) H18v1.rd (by rw [hkv1]; exact hn1) g2).mono ?_
      rintro e w19 ⟨K, rfl, hdK, H19K, hkK, hb19⟩
      have BB19 := BB18.trans (hb19.mono BB18.size)
      have sz19 := hb19.size
      have H19W := H18W.below hb19
      clear H18W
      have H19G := H18G.below hb19
      clear H18G
      have H19v0 := H18v0.below hb19
      clear H18v0
      have H19v1 := H18v1.below hb19
      clear H18v1
      have c19_a0_0 := cell_later hb19 c18_a0_0
      clear c18_a0_0
      have c19_a0_1 := cell_later hb19 c18_a0_1
      clear c18_a0_1
      have HDK := Lib.hid hdK
      clear hdK
      go_wp2_with fail
      refine (eqShardS_k K W _ _ HDK.out HDW.out _ H19K.rd H19W.rd).mono ?_
      rintro e w20 ⟨rfl, hb20⟩
      have BB20 := BB19.trans (hb20.mono BB19.size)
      have sz20 := hb20.size
      have H20W := H19W.below hb20
      clear H19W
      have H20G := H19G.below hb20
      clear H19G
      have H20K := H19K.below hb20
      clear H19K
      have c20_a0_0 := cell_later hb20 c19_a0_0
      clear c19_a0_0
      have c20_a0_1 := cell_later hb20 c19_a0_1
      clear c19_a0_1
      go_wp2_with fail
      refine (heldShardS_k G 1 _ H20G (by omega) (by omega)).mono ?_
      rintro e w21 ⟨rfl, hb21⟩
      have BB21 := BB20.trans (hb21.mono BB20.size)
      have sz21 := hb21.size
      have H21W := H20W.below hb21
      clear H20W
      have H21G := H20G.below hb21
      clear H20G
      have c21_a0_0 := cell_later hb21 c20_a0_0
      clear c20_a0_0
      have c21_a0_1 := cell_later hb21 c20_a0_1
      clear c20_a0_1
      go_wp2
      go_ret
      exact ⟨rfl, BB21⟩
    · have BB0 := Below.refl w.heap.size w
      have okY0 := goodGraph_ok g0
      have q1 : rdIntS w ⟨a1, n1, c1, z1⟩ := r1
      go_enter Try.func7, Try.ntmps7
      have HL0 := Lib.hid (leftB_no (left := 1048576) (n := bulkGraph y0) (by omega))
      have ha1 := ((Below.refl w.heap.size w).alloc (Nat.le_refl _) (.cells #[.int .i64 y0.n, .slice y0.edgesA y0.edgesN y0.edgesC] 45))
      have BP1 := BB0.trans (ha1.mono BB0.size)
      go_wp2_with fail
      refine (szGraph_k y0 _ _ (rdGraph_below (goodGraph_rd g0) BP1 (Nat.le_refl _)) (by omega) (by omega)).mono ?_
      rintro e w1 ⟨rfl, hb1⟩
      rw [HL0.out]
      have hx1 : Below w.heap.size w w1 := ha1.trans (hb1.mono ha1.size)
      have szz1 : w.heap.size + 1 ≤ w1.heap.size := by have := hb1.size; simp at this; omega
      obtain ⟨hc1, hf1⟩ := bcell hb1
      have c1_a0_0 : w1.cell? ⟨w.heap.size, 0, none⟩ = some (.int .i64 y0.n) := by rw [hc1 _ _ (by simp)]; simp [go_sem]
      have c1_a0_1 : w1.cell? ⟨w.heap.size, 1, none⟩ = some (.slice y0.edgesA y0.edgesN y0.edgesC) := by rw [hc1 _ _ (by simp)]; simp [go_sem]
      clear hc1 hf1
      have BB1 := BB0.trans (hx1.mono BB0.size)
      have sz1 := hx1.size
      go_wp2
      go_ret
      exact ⟨rfl, BB1⟩
  · have BB0 := Below.refl w.heap.size w
    have ha1 := ((Below.refl w.heap.size w).alloc (Nat.le_refl _) (.cells #[.int .i64 y0.n, .slice y0.edgesA y0.edgesN y0.edgesC] 45))
    have BP1 := BB0.trans (ha1.mono BB0.size)
    have okY0 := goodGraph_ok g0
    have q1 : rdIntS w ⟨a1, n1, c1, z1⟩ := r1
    go_enter Try.func7, Try.ntmps7
    go_wp2
    go_ret
    exact ⟨rfl, BP1⟩
end Go.Proofs.Ythffmjeodoinlaa

/- The law FnExactShards returns true for every input, and leaves its arguments as they were: no condition. The row's step; the walk stands in the text imported. -/
namespace Go.Proofs.Ythffmjeodoinlaa.fnExactShards
open Go.ChangeShapes Go.WideShapes Go.ChangeAt Go.RowKit Go.Deep
open Go.ChangeMaps (open_string shut_string)
set_option linter.unusedVariables false
set_option maxRecDepth 100000 in
theorem lifted (os : Os) (started : os.Started) (H : Type) (enc : TypeId × Value → H) :
    ReturnsInHanded {} Try.checked os 7 .any (Rows.fnExactShardsSpec.pre6 enc Try.prog Try.f7 Rows.fnExactShardsRow.domain false) (Rows.fnExactShardsSpec.post enc Try.prog Try.f7 false true false false) := by
  refine returnsInHanded_of_change (C := Try.checked) own started (by kernel_rfl) Try.func7
    (ChangeSpec.witness6 (enc := enc) (C := Try.checked) false ⟨#[], #[.agg #[.int .i64 0, .slice none 0 0], .slice none 0 0, .int .i64 0], []⟩ 8 (by kernel_rfl) (by kernel_rfl) (by kernel_rfl) (by kernel_rfl)) ?_
  intro W base args ds gs before hval0 hW hcnd _
  have hval : ∀ (j : Nat) t v, Try.f7.params[j]? = some t → args[j]? = some v → Value.okWide Try.prog W .any base t v := hval0
  have hW' := hW
  obtain ⟨p, q, hA0, hV, rfl, hfz, hnd⟩ := hW
  have hA : DataW.TrodAll enc Try.prog W 0 (fun _ => true) true Try.f7.params.toList args.toList ds p := hA0
  rw [Try.params7] at hA hval
  obtain ⟨v0, vs0, d0, ds0, p0, q0, hargs, rfl, rfl, h0, r0⟩ := trodAll_cons hA
  obtain ⟨v1, vs1, d1, ds1, p1, q1, rfl, rfl, rfl, h1, r1⟩ := trodAll_cons r0
  obtain ⟨v2, vs2, d2, ds2, p2, q2, rfl, rfl, rfl, h2, r2⟩ := trodAll_cons r1
  obtain ⟨rfl, rfl, rfl⟩ := trodAll_nil r2
  obtain rfl : args = #[v0, v1, v2] := by cases args; simp_all
  obtain ⟨rfl, rfl⟩ := trodVars_none hV
  have k0 := h0
  have lt0 : ∀ x ∈ p0, x.block < W.heap.size := by obtain ⟨m, hm⟩ := k0; exact DataW.trod_lt m _ _ _ hm
  obtain ⟨cs0, rfl, hsz0⟩ := okWide_struct Try.underlying45 (hval 0 45 v0 rfl rfl)
  obtain ⟨fu0, hf0⟩ := h0
  obtain ⟨y0, hc0, gd0⟩ := opGraph _ _ _ hf0
  obtain rfl : cs0 = #[.int .i64 y0.n, .slice y0.edgesA y0.edgesN y0.edgesC] := by apply Array.toList_inj.1; simpa [Value.cells, encGraph] using hc0
  have k1 := h1
  have lt1 : ∀ x ∈ p1, x.block < W.heap.size := by obtain ⟨m, hm⟩ := k1; exact DataW.trod_lt m _ _ _ hm
  obtain ⟨b1, m1, kk1, rfl⟩ := okWide_slice Try.underlying46 (hval 1 46 v1 rfl rfl)
  obtain ⟨fu1, hf1⟩ := h1
  obtain ⟨a1, n1, c1, z1, hc1, rd1, gd1⟩ := op_sl (sz := 1) Try.underlying46 (by kernel_rfl) (by decide) (op_i64 Try.underlying3) _ _ _ hf1
  simp [Value.cells] at hc1
  obtain ⟨rfl, rfl, rfl⟩ := hc1
  have k2 := h2
  have lt2 : ∀ x ∈ p2, x.block < W.heap.size := by obtain ⟨m, hm⟩ := k2; exact DataW.trod_lt m _ _ _ hm
  obtain ⟨x2, e2, _, _, wx2⟩ := open_int Try.underlying3 (hval 2 3 v2 rfl rfl) h2
  subst e2
  clear hA0 hval0
  refine (walk_FnExactShards y0 b1 m1 kk1 z1 x2 W gd0 rd1 gd1 (in64_of wx2)).mono fun e W' ⟨he, bel⟩ => ?_
  subst he
  exact ⟨_, rfl, _, _, _, [], _, [], hW', trodAll_mk1 (shut_bool Try.underlying4 _), (trodAll_cons_mk (Below.trod laidOut (by kernel_rfl) (of_decide_eq_true (by kernel_rfl)) k0 bel lt0) (trodAll_cons_mk (Below.trod laidOut (by kernel_rfl) (of_decide_eq_true (by kernel_rfl)) k1 bel lt1) (trodAll_cons_mk (Below.trod laidOut (by kernel_rfl) (of_decide_eq_true (by kernel_rfl)) k2 bel lt2) trodAll_mk0))), rfl, bel.frame _, fun h => by cases h⟩

theorem over : Rows.fnExactShardsRow.holds Try.pinned (OpenSpec.ofChange Rows.fnExactShardsSpec) :=
  OpenClaim.holds_of_wide 7 Try.f7 rfl rfl rfl rfl rfl rfl rfl ⟨rfl, rfl, rfl, rfl, rfl⟩ rfl rfl rfl rfl rfl (by kernel_rfl) Try.func7 (by kernel_rfl)
    (of_decide_eq_true (by kernel_rfl)) (by unfold Func.isWrapper; first | (rw [if_pos (by decide +kernel)]; kernel_rfl) | (rw [if_neg (by decide +kernel)]; exact ⟨rfl, rfl⟩))
    (fun os started H enc _ => lifted os started H enc)

theorem proved : Rows.FnExactShardsSaid := over
#print axioms proved
end Go.Proofs.Ythffmjeodoinlaa.fnExactShards

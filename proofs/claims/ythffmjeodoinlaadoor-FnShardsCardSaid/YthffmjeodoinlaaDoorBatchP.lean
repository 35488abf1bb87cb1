/- Batches: the plain function, and what holds at each round's head. Nothing of the program but the shape of its rows. -/
import Derived.Test.YthffmjeodoinlaaDoorSortP
import Derived.Test.YthffmjeodoinlaaDoorSortOne
import Derived.Test.YthffmjeodoinlaaDoorNestA
namespace Go.Proofs.YthffmjeodoinlaaDoor
open Go.RowKit
def batGo (s : Nat) : Nat → List RecR → List (List RecR)
  | 0, _ => []
  | f + 1, l => if l.length = 0 then [] else sortL (l.take s) :: batGo s f (l.drop s)
def batF (l : List RecR) (size : Int) : List (List RecR) := if size < 1 then [] else batGo size.toNat l.length l
theorem batGo_nil (s f : Nat) (l : List RecR) (h : l.length = 0) : batGo s f l = [] := by
  cases f with
  | zero => rfl
  | succ f => unfold batGo; rw [if_pos h]
theorem batGo_fuel {s : Nat} (hs : 1 ≤ s) : ∀ (f : Nat) (l : List RecR), l.length ≤ f → batGo s f l = batGo s l.length l := by
  intro f
  induction f using Nat.strongRecOn with
  | _ f ih =>
    intro l hl
    by_cases h : l.length = 0
    · rw [batGo_nil _ _ _ h, batGo_nil _ _ _ h]
    · obtain ⟨f', rfl⟩ : ∃ f', f = f' + 1 := ⟨f - 1, by omega⟩
      obtain ⟨k, hk⟩ : ∃ k, l.length = k + 1 := ⟨l.length - 1, by omega⟩
      rw [hk]
      unfold batGo
      rw [if_neg h, if_neg h]
      have hd : (l.drop s).length ≤ k := by rw [List.length_drop]; omega
      congr 1
      rw [ih f' (by omega) (l.drop s) (by omega)]
      by_cases e : k = f'
      · rw [e, ih f' (by omega) (l.drop s) (by omega)]
      · rw [ih k (by omega) (l.drop s) hd]
theorem batGo_step {s : Nat} (hs : 1 ≤ s) {l : List RecR} (h : l.length ≠ 0) : batGo s l.length l = sortL (l.take s) :: batGo s (l.drop s).length (l.drop s) := by
  obtain ⟨k, hk⟩ : ∃ k, l.length = k + 1 := ⟨l.length - 1, by omega⟩
  rw [hk]
  conv => lhs; unfold batGo
  rw [if_neg h, batGo_fuel hs k (l.drop s) (by rw [List.length_drop]; omega)]
theorem take_cut {α : Type} (l : List α) (s : Nat) (h : l.length < s) : l.take s = l.take l.length := by rw [List.take_of_length_le (by omega), List.take_of_length_le (Nat.le_refl _)]
theorem preBatch_snoc (xs : List BatchR) (x : BatchR) : preBatch (xs ++ [x]) (xs.length + 1) = preBatch xs xs.length + bulkBatch x := by
  unfold preBatch
  rw [List.take_of_length_le (by simp), List.take_of_length_le (Nat.le_refl _), List.map_append, List.sum_append]
  simp
theorem oneBatch (x : BatchR) : ∀ u ∈ encBatch x, u.oneCell' = true := by
  intro u hu
  simp [encBatch] at hu
  subst hu
  rfl
theorem infoBatch : (Tryd.prog.info? 74).map (fun i => (i.zero, i.size, i.bytes)) = some (some (.agg #[.slice none 0 0]), 1, 24) := by kernel_rfl
/-- A call that returns a row of batches. -/
def RetBats (F : List (List RecR)) (w : World) (en : Ending) (w' : World) : Prop := ∃ r : Row BatchR, en = .returned (.slice r.a r.n r.c) ∧ datBatchS r = F ∧ OwnBatchS w.heap.size w'.heap.size w' r ∧ (r.n ≤ 1048576 ∧ preBatch r.l r.l.length ≤ 1048576) ∧ Below w.heap.size w w'
/-- What holds at each round's head, p records being done. -/
def BatInv (F : List (List RecR)) (s : Nat) (xs : List RecR) (w : World) (out : Value) (p : Nat) (wr : World) : Prop := ∃ y : Row BatchR, out = .slice y.a y.n y.c ∧ OwnBatchS w.heap.size wr.heap.size wr y ∧ (y.n ≤ p ∧ preBatch y.l y.l.length ≤ p) ∧ datBatchS y ++ batGo s (xs.drop p).length (xs.drop p) = F ∧ Below w.heap.size w wr
theorem BatInv.next {F : List (List RecR)} {s m : Nat} {xs : List RecR} {w wr w1 W0 w2 : World} {p : Nat} {y : Row BatchR} {z : Row RecR} {A2 : Option Addr} {C2 : Nat}
    (hs : 1 ≤ s) (hp : p < xs.length) (hm : m = min s (xs.length - p)) (hN : OwnBatchS w.heap.size wr.heap.size wr y) (hbk : y.n ≤ p ∧ preBatch y.l y.l.length ≤ p) (hfin : datBatchS y ++ batGo s (xs.drop p).length (xs.drop p) = F) (hb : Below w.heap.size w wr)
    (hdz : datRecS z = sortL ((xs.drop p).take m)) (ho : OwnRecS wr.heap.size w1.heap.size w1 z) (hb1 : Below wr.heap.size wr w1) (hb2 : Below w1.heap.size w1 W0)
    (ho2 : w2.ownsRow w.heap.size 74 1 (.slice A2 (y.n + 1) C2) (y.n + 1) (y.l.flatMap encBatch ++ encBatch ⟨z.a, z.n, z.c, z.l⟩)) (hg2 : W0.grownBy w2 (Value.slice y.a y.n y.c).ownBlock)
    (hnew : (Value.slice A2 (y.n + 1) C2).ownBlock = (Value.slice y.a y.n y.c).ownBlock ∨ ∀ g, (Value.slice A2 (y.n + 1) C2).ownBlock = some g → W0.heap.size ≤ g) (hx : xs.length ≤ 1048576) :
    BatInv F s xs w (.slice A2 (y.n + 1) C2) (p + m) w2 := by
  have hyl := hN.nest.row.len
  have hzl := ho.row.len
  have hzm : z.n = m := by
    rw [← hzl]
    have : z.l = sortL ((xs.drop p).take m) := hdz
    rw [this, len_sortL, List.length_take, List.length_drop]
    omega
  have hbW : Below wr.heap.size wr W0 := hb1.trans (hb2.mono hb1.size)
  have hsz := hbW.size
  have hbw := hb.size
  have hinn : OwnS encRec 3 54 w.heap.size W0.heap.size W0 z.a z.n z.c z.l := ((ho.row.below hb2).lo_le hbw).grow hb2.size (Nat.le_refl _)
  have hbig := (hN.nest.below hbW).grow hsz (Nat.le_refl _)
  have hsn := hbig.snoc (⟨z.a, z.n, z.c, z.l⟩ : BatchR) A2 C2 (OwnS.of (by rw [List.flatMap_append]; simpa using ho2) (by simp; omega) (show y.n + 1 ≤ _ by omega)) hinn hg2 hnew
    (fun g hg e => by
      have e1 := hN.nest.row.lt g e
      have e2 := (World.ownsRow.lt ho.row.own g hg).1
      omega)
    (fun i hi0 g hg e => by
      have e1 := (hN.nest.inner i hi0).lt g hg
      have e2 := (World.ownsRow.lt ho.row.own g e).1
      omega) hg2.size (Nat.le_refl _)
  refine ⟨⟨A2, y.n + 1, C2, y.l ++ [⟨z.a, z.n, z.c, z.l⟩]⟩, rfl, ⟨hsn⟩, ⟨?_, ?_⟩, ?_, ?_⟩
  · show y.n + 1 ≤ p + m
    omega
  · simp only
    rw [List.length_append]
    simp only [List.length_cons, List.length_nil, Nat.zero_add]
    rw [preBatch_snoc]
    unfold bulkBatch
    simp only
    omega
  · rw [batGo_step (l := xs.drop p) hs (by rw [List.length_drop]; omega)] at hfin
    have e1 : (xs.drop p).take s = (xs.drop p).take m := by
      by_cases h : s ≤ xs.length - p
      · rw [hm, Nat.min_eq_left h]
      · rw [take_cut _ _ (by rw [List.length_drop]; omega), hm, Nat.min_eq_right (by omega), List.length_drop]
    have e2 : (xs.drop p).drop s = xs.drop (p + m) := by
      rw [List.drop_drop]
      by_cases h : s ≤ xs.length - p
      · rw [hm, Nat.min_eq_left h]
      · rw [List.drop_of_length_le (by omega), List.drop_of_length_le (by omega)]
    rw [e1, e2, ← hdz] at hfin
    rw [← hfin]
    unfold datBatchS
    simp only [List.map_append, List.map_cons, List.map_nil, List.append_assoc, List.cons_append, List.nil_append]
    rfl
  · exact (hb.trans (hbW.mono hbw)).grown hg2 (by omega) (fun k hk => by
      exact (World.ownsRow.lt hN.nest.row.own k hk).1)
end Go.Proofs.YthffmjeodoinlaaDoor

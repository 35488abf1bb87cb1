/- A store of a struct in a region that draws its order; and what it leaves. Nothing of the program. -/
import Derived.Test.YtkgalkaafocnjaaOwn
import Derived.Deep.RegionHeld3
import Derived.Deep.MidRow
namespace Go.Proofs.Ytkgalkaafocnjaa
open Go.RowKit
theorem step_store_mid {P : Program} {w : World} {ops : Array Oper} {op : Oper} {a : Act} {K : Act → World → Prop} {Q : Exit → Act → World → Prop} {E : Prop} (hgd : op.guard = none) (ty : TypeId) (x y : Operand) (ho : op.op = .store ty x y)
    (b o : Nat) (cells : Array Value) (hx : a.eval x = .pointer (some ⟨b, o, none⟩)) (hy : a.eval y = .agg cells)
    (ht : w.there b o cells.size) (hi : (P.info? ty).map (·.size) = some cells.size) (h1 : cells.all (·.oneCell') = true)
    (h : K (a.put op.dst undef) (w.setCells b o cells.toList)) :
    if Region.wanted op (yielded ops a.tmps) = true then Oper.wp P op a w K Q else E := by
  have hw : Region.wanted op (yielded ops a.tmps) = true := by simp [Region.wanted, hgd]
  rw [if_pos hw]
  exact wp_store_mid ty x y ho b o cells hx hy ht hi h1 h
theorem below_setCells {w w' : World} {B b : Nat} (h : Below B w w') (hB : B ≤ b) : ∀ (vs : List Value) (o : Nat), Below B w (w'.setCells b o vs) := by
  intro vs
  induction vs generalizing w' with
  | nil => intro o; exact h
  | cons v r ih => intro o; exact ih (h.setCell (p := ⟨b, o, none⟩) hB v) (o + 1)
theorem there_of {w : World} {b o n : Nat} (h : ∀ j, j < n → ∃ d, w.cell? ⟨b, o + j, none⟩ = some d) (hf : ∀ j, j < n → w.frozen? ⟨b, o + j, none⟩ = false) : w.there b o n := fun j hj => ⟨by obtain ⟨d, hd⟩ := h j hj; rw [hd]; rfl, hf j hj⟩
theorem there_below {w w' : World} {b o n : Nat} (h : w.there b o n) (hb : Below w.heap.size w w') : w'.there b o n := fun j hj => by
  obtain ⟨h1, h2⟩ := h j hj
  obtain ⟨d, hd⟩ := Option.isSome_iff_exists.1 h1
  have hl := World.block_lt_of_cell? _ _ hd
  exact ⟨by rw [cell_later hb hd]; rfl, (hb.frozen (p := ⟨b, o + j, none⟩) hl).trans h2⟩
/-- What a cell holds, behind a name: 'it is there' as an equation that the walk can use and that a store keeps. -/
def cellV (w : World) (a : Addr) : Value := (w.cell? a).getD undef
theorem cellV_of {w : World} {a : Addr} {v : Value} (h : w.cell? a = some v) : w.cell? a = some (cellV w a) := by unfold cellV; rw [h]; rfl
theorem keepV {w0 w w' : World} {a1 a2 a3 : Addr} {v1 : Value} (hb : Below w.heap.size w w') (h : w.cell? a1 = some v1 ∧ w.cell? a2 = some (cellV w a2) ∧ w.cell? a3 = some (cellV w a3) ∧ w.frozen? a2 = false ∧ w.frozen? a3 = false ∧ Below w0.heap.size w0 w) :
    w'.cell? a1 = some v1 ∧ w'.cell? a2 = some (cellV w' a2) ∧ w'.cell? a3 = some (cellV w' a3) ∧ w'.frozen? a2 = false ∧ w'.frozen? a3 = false ∧ Below w0.heap.size w0 w' :=
  ⟨cell_later hb h.1, cellV_of (cell_later hb h.2.1), cellV_of (cell_later hb h.2.2.1), (hb.frozen (World.block_lt_of_cell? _ _ h.2.1)).trans h.2.2.2.1, (hb.frozen (World.block_lt_of_cell? _ _ h.2.2.1)).trans h.2.2.2.2.1, h.2.2.2.2.2.trans (hb.mono h.2.2.2.2.2.size)⟩
theorem keepVd {w0 w : World} {a1 a2 a3 : Addr} {v1 : Value} (h : w.cell? a1 = some v1 ∧ w.cell? a2 = some (cellV w a2) ∧ w.cell? a3 = some (cellV w a3) ∧ w.frozen? a2 = false ∧ w.frozen? a3 = false ∧ Below w0.heap.size w0 w) :
    w.drew.cell? a1 = some v1 ∧ w.drew.cell? a2 = some (cellV w.drew a2) ∧ w.drew.cell? a3 = some (cellV w.drew a3) ∧ w.drew.frozen? a2 = false ∧ w.drew.frozen? a3 = false ∧ Below w0.heap.size w0 w.drew :=
  ⟨h.1, h.2.1, h.2.2.1, h.2.2.2.1, h.2.2.2.2.1, h.2.2.2.2.2.drew⟩
theorem keepVs {w0 w : World} {b b1 o1 : Nat} {v1 u v : Value} (hne : b1 ≠ b) (hB : w0.heap.size ≤ b) (h : w.cell? ⟨b1, o1, none⟩ = some v1 ∧ w.cell? ⟨b, 0, none⟩ = some (cellV w ⟨b, 0, none⟩) ∧ w.cell? ⟨b, 1, none⟩ = some (cellV w ⟨b, 1, none⟩) ∧ w.frozen? ⟨b, 0, none⟩ = false ∧ w.frozen? ⟨b, 1, none⟩ = false ∧ Below w0.heap.size w0 w) :
    ((w.setCell ⟨b, 0, none⟩ u).setCell ⟨b, 1, none⟩ v).cell? ⟨b1, o1, none⟩ = some v1 ∧ ((w.setCell ⟨b, 0, none⟩ u).setCell ⟨b, 1, none⟩ v).cell? ⟨b, 0, none⟩ = some (cellV ((w.setCell ⟨b, 0, none⟩ u).setCell ⟨b, 1, none⟩ v) ⟨b, 0, none⟩) ∧ ((w.setCell ⟨b, 0, none⟩ u).setCell ⟨b, 1, none⟩ v).cell? ⟨b, 1, none⟩ = some (cellV ((w.setCell ⟨b, 0, none⟩ u).setCell ⟨b, 1, none⟩ v) ⟨b, 1, none⟩) ∧ ((w.setCell ⟨b, 0, none⟩ u).setCell ⟨b, 1, none⟩ v).frozen? ⟨b, 0, none⟩ = false ∧ ((w.setCell ⟨b, 0, none⟩ u).setCell ⟨b, 1, none⟩ v).frozen? ⟨b, 1, none⟩ = false ∧ Below w0.heap.size w0 ((w.setCell ⟨b, 0, none⟩ u).setCell ⟨b, 1, none⟩ v) := by
  have e : (w.setCell ⟨b, 0, none⟩ u).setCell ⟨b, 1, none⟩ v = w.setCells b 0 [u, v] := rfl
  have th : w.there b 0 2 := there_of (fun j hj => by
    match j, hj with
    | 0, _ => exact ⟨_, h.2.1⟩
    | 1, _ => exact ⟨_, h.2.2.1⟩) (fun j hj => by
    match j, hj with
    | 0, _ => exact h.2.2.2.1
    | 1, _ => exact h.2.2.2.2.1)
  rw [e]
  have t2 := World.there_setCells th b 0 [u, v]
  obtain ⟨d0, hd0⟩ := Option.isSome_iff_exists.1 (t2 0 (by omega)).1
  obtain ⟨d1, hd1⟩ := Option.isSome_iff_exists.1 (t2 1 (by omega)).1
  exact ⟨by rw [World.cell?_setCells_out b [u, v] 0 w ⟨b1, o1, none⟩ (fun e _ => absurd e hne)]; exact h.1, cellV_of hd0, cellV_of hd1, (t2 0 (by omega)).2, (t2 1 (by omega)).2, below_setCells h.2.2.2.2.2 hB [u, v] 0⟩
theorem tailV {w0 w : World} {a1 a2 a3 : Addr} {v1 : Value} (h : w.cell? a1 = some v1 ∧ w.cell? a2 = some (cellV w a2) ∧ w.cell? a3 = some (cellV w a3) ∧ w.frozen? a2 = false ∧ w.frozen? a3 = false ∧ Below w0.heap.size w0 w) : Below w0.heap.size w0 w := h.2.2.2.2.2
/-- What a region keeps that reads one cell, calls what makes memory, and stores a struct of n cells into block b. -/
theorem keepT {w0 w w' : World} {b n : Nat} {a1 : Addr} {v1 : Value} (hb : Below w.heap.size w w') (h : w.cell? a1 = some v1 ∧ w.there b 0 n ∧ Below w0.heap.size w0 w) : w'.cell? a1 = some v1 ∧ w'.there b 0 n ∧ Below w0.heap.size w0 w' :=
  ⟨cell_later hb h.1, there_below h.2.1 hb, h.2.2.trans (hb.mono h.2.2.size)⟩
theorem keepTd {w0 w : World} {b n : Nat} {a1 : Addr} {v1 : Value} (h : w.cell? a1 = some v1 ∧ w.there b 0 n ∧ Below w0.heap.size w0 w) : w.drew.cell? a1 = some v1 ∧ w.drew.there b 0 n ∧ Below w0.heap.size w0 w.drew := ⟨h.1, h.2.1, h.2.2.drew⟩
theorem keepTs {w0 w : World} {b n b1 o1 : Nat} {v1 : Value} (hne : b1 ≠ b) (hB : w0.heap.size ≤ b) (vs : List Value) (h : w.cell? ⟨b1, o1, none⟩ = some v1 ∧ w.there b 0 n ∧ Below w0.heap.size w0 w) : (w.setCells b 0 vs).cell? ⟨b1, o1, none⟩ = some v1 ∧ (w.setCells b 0 vs).there b 0 n ∧ Below w0.heap.size w0 (w.setCells b 0 vs) :=
  ⟨by rw [World.cell?_setCells_out b vs 0 w ⟨b1, o1, none⟩ (fun e _ => absurd e hne)]; exact h.1, World.there_setCells h.2.1 _ _ _, below_setCells h.2.2 hB vs 0⟩
theorem tailT {w0 w : World} {b n : Nat} {a1 : Addr} {v1 : Value} (h : w.cell? a1 = some v1 ∧ w.there b 0 n ∧ Below w0.heap.size w0 w) : Below w0.heap.size w0 w := h.2.2
theorem thereT {w0 w : World} {b n : Nat} {a1 : Addr} {v1 : Value} (h : w.cell? a1 = some v1 ∧ w.there b 0 n ∧ Below w0.heap.size w0 w) : w.there b 0 n := h.2.1
end Go.Proofs.Ytkgalkaafocnjaa

/- The state in which the functions behind sort.Slice stand, over a row of Rec, where 'less' may make new blocks. -/
import Derived.Test.YthffmjeodoinlaaDoorSorted
import Derived.Test.YthffmjeodoinlaaDoorOwn
import Derived.Shelf.SlSortFuncK.RowK2
import Derived.Shelf.GgSortFunc.InsertionK
namespace Go.Proofs.YthffmjeodoinlaaDoor
open Go.RowKit Go.Lib
open Go.Sort (HoldsK putRowK)
instance : Inhabited RecR := ⟨⟨0, 0, 0⟩⟩
theorem holdsK_block {w w' : World} {blk off : Nat} {d : Array RecR} (h : HoldsK encRec 3 w blk off d) (hb : w'.heap[blk]? = w.heap[blk]?) : HoldsK encRec 3 w' blk off d := fun j hj => by
  obtain ⟨h1, h2⟩ := h j hj
  exact ⟨(World.cell?_of_block (w := w) (a := ⟨blk, off + j, none⟩) hb).trans h1, by unfold World.frozen? at h2 ⊢; rw [hb]; exact h2⟩
theorem Win.setCells {lo hi : Nat} (b : Nat) (h1 : lo ≤ b) (h2 : b < hi) : ∀ (vs : List Value) (o : Nat) (w : World), Win lo hi w (w.setCells b o vs)
  | [], _, w => Win.refl _ _ w
  | v :: r, o, w => by
    rw [World.setCells]
    exact (Win.set w b o v h1 h2).trans (Win.setCells b h1 h2 r (o + 1) _)
/-- The block keeps its form and its size. -/
def SameForm (blk : Nat) (w wr : World) : Prop := ∀ cur e p, w.heap[blk]? = some (.cells cur e p) → ∃ cur', wr.heap[blk]? = some (.cells cur' e p) ∧ cur'.size = cur.size
theorem SameForm.refl (blk : Nat) (w : World) : SameForm blk w w := fun cur _ _ h => ⟨cur, h, rfl⟩
theorem SameForm.trans {blk : Nat} {w w1 w2 : World} (h : SameForm blk w w1) (k : SameForm blk w1 w2) : SameForm blk w w2 := fun cur e p hc => by
  obtain ⟨c1, h1, s1⟩ := h cur e p hc
  obtain ⟨c2, h2, s2⟩ := k c1 e p h1
  exact ⟨c2, h2, s2.trans s1⟩
theorem SameForm.of_block {blk : Nat} {w w1 : World} (h : w1.heap[blk]? = w.heap[blk]?) : SameForm blk w w1 := fun cur _ _ hc => ⟨cur, h.trans hc, rfl⟩
theorem SameForm.map (w : World) (blk : Nat) (f : Array Value → Array Value) (hf : ∀ c, (f c).size = c.size) : SameForm blk w (Sort.mapBlock w blk f) := fun cur e p hc => by
  refine ⟨f cur, ?_, hf cur⟩
  show (w.heap.modify blk (Sort.onCells f))[blk]? = _
  rw [Array.getElem?_modify, if_pos rfl, hc]
  rfl
theorem SameForm.setCells (b : Nat) : ∀ (vs : List Value) (o : Nat) (w : World), SameForm b w (w.setCells b o vs)
  | [], _, w => SameForm.refl _ w
  | v :: r, o, w => by
    rw [World.setCells]
    exact (by rw [Sort.setCell_eq]; exact SameForm.map w b _ (fun c => by simp) : SameForm b w (w.setCell ⟨b, o, none⟩ v)).trans (SameForm.setCells b r (o + 1) _)
/-- The row at blk, off holds d; since w only its block was written. -/
structure Srt (blk off : Nat) (w wr : World) (d : Array RecR) : Prop where
  hold : HoldsK encRec 3 wr blk off d
  win : Win blk (blk + 1) w wr
  lt : blk < w.heap.size
  form : SameForm blk w wr
section
variable {blk off : Nat} {w wr w' w0 : World} {d d' : Array RecR}
theorem Srt.start (h : HoldsK encRec 3 w blk off d) (hl : blk < w.heap.size) : Srt blk off w w d := ⟨h, Win.refl _ _ _, hl, SameForm.refl _ _⟩
theorem Srt.ltr (S : Srt blk off w wr d) : blk < wr.heap.size := Nat.lt_of_lt_of_le S.lt S.win.size
theorem Srt.below (S : Srt blk off w wr d) (hb : Below wr.heap.size wr w') : Srt blk off w w' d := ⟨holdsK_block S.hold (hb.block blk S.ltr), S.win.trans (Win.of_below hb), S.lt, S.form.trans (SameForm.of_block (hb.block blk S.ltr))⟩
theorem Srt.trans (S : Srt blk off w wr d) (T : Srt blk off wr w' d') : Srt blk off w w' d' := ⟨T.hold, S.win.trans T.win, S.lt, S.form.trans T.form⟩
theorem Srt.base (S : Srt blk off w wr d) (hb : Below w0.heap.size w0 w) (h : blk < w0.heap.size) : Srt blk off w0 wr d := ⟨S.hold, (Win.of_below hb).trans S.win, h, (SameForm.of_block (hb.block blk h)).trans S.form⟩
theorem Srt.swap (S : Srt blk off w wr d) {i j : Nat} (hi : i < d.size) (hj : j < d.size) : Srt blk off w ((wr.setCells blk (off + i * 3) (encRec d[j]!)).setCells blk (off + j * 3) (encRec d[i]!)) (Sort.swp d i j) := by
  refine ⟨?_, (S.win.trans (Win.setCells blk (Nat.le_refl _) (Nat.lt_succ_self _) _ _ _)).trans (Win.setCells blk (Nat.le_refl _) (Nat.lt_succ_self _) _ _ _), S.lt, (S.form.trans (SameForm.setCells _ _ _ _)).trans (SameForm.setCells _ _ _ _)⟩
  have e := Sort.putRowK_swp encRec 3 (fun _ => rfl) wr blk off d i j hi hj
  rw [Sort.putRowK_self _ _ _ _ _ _ S.hold] at e
  rw [e]
  exact Sort.holdsK_putRowK encRec 3 wr blk off d _ S.hold (by simp [Sort.swp])
/-- .. and the box of 'data' holds its two functions. -/
structure SSt (blk off D : Nat) (x y : Value) (w wr : World) (d : Array RecR) : Prop where
  s : Srt blk off w wr d
  c0 : wr.cell? ⟨D, 0, none⟩ = some x
  c1 : wr.cell? ⟨D, 1, none⟩ = some y
  ne : D ≠ blk
variable {D : Nat} {x y : Value}
theorem SSt.start (h : HoldsK encRec 3 w blk off d) (hl : blk < w.heap.size) (t : TypeId) : SSt blk off w.heap.size x y w (w.alloc (.cells #[x, y] t)) d :=
  ⟨(Srt.start h hl).below ((Below.refl _ _).alloc (Nat.le_refl _) _), by simp, by simp, by omega⟩
theorem SSt.below (S : SSt blk off D x y w wr d) (hb : Below wr.heap.size wr w') : SSt blk off D x y w w' d := ⟨S.s.below hb, cell_later hb S.c0, cell_later hb S.c1, S.ne⟩
theorem SSt.call (S : SSt blk off D x y w wr d) (T : Srt blk off wr w' d') : SSt blk off D x y w w' d' :=
  have hd : D < blk ∨ blk + 1 ≤ D := by have := S.ne; omega
  ⟨S.s.trans T, cell_win T.win S.c0 hd, cell_win T.win S.c1 hd, S.ne⟩
end
/-- What is asked of 'less' and 'swap'. -/
structure SEnv (g sf : Nat) (lb sb : Array Value) (blk off N : Nat) (w : World) : Prop where
  eg : ∀ args w, (callFunc g args).run Tryd.prog w = .ok (.enter g args) w
  less : ∀ (wr : World) (d : Array RecR), Srt blk off w wr d → d.size = N → ∀ i j : Nat, i < N → j < N →
    Calls Tryd.prog g (#[.int .i64 i, .int .i64 j] ++ lb) wr fun e w' => e = .returned (.bool (lessR d[i]! d[j]!)) ∧ Below wr.heap.size wr w'
  swap : SwapSwapsK Tryd.prog sf sb encRec 3 blk off N
  big : N < 4611686018427387904
section
variable {g sf : Nat} {lb sb : Array Value} {blk off N : Nat} {w wr : World} {d : Array RecR} {D : Nat} {x y : Value}
theorem SEnv.later (E : SEnv g sf lb sb blk off N w) (S : Srt blk off w wr d) : SEnv g sf lb sb blk off N wr := ⟨E.eg, fun w' d' T => E.less w' d' (S.trans T), E.swap, E.big⟩
theorem SEnv.lessAt (E : SEnv g sf lb sb blk off N w) (S : SSt blk off D x y w wr d) (hN : d.size = N) (u v : Int) (i j : Nat) (hu : u = (i : Int)) (hv : v = (j : Int)) (hi : i < N) (hj : j < N) {q : Bool} (hq : lessR d[i]! d[j]! = q) :
    Calls Tryd.prog g (#[.int .i64 u, .int .i64 v] ++ lb) wr fun e w' => e = .returned (.bool q) ∧ Below wr.heap.size wr w' := by
  subst hu hv hq
  exact E.less wr d S.s hN i j hi hj
theorem SEnv.swapAt (E : SEnv g sf lb sb blk off N w) (S : SSt blk off D x y w wr d) (hN : d.size = N) (u v : Int) (i j : Nat) (hu : u = (i : Int)) (hv : v = (j : Int)) (hi : i < N) (hj : j < N) :
    ∃ w', (callFunc sf (#[.int .i64 u, .int .i64 v] ++ sb)).run Tryd.prog wr = .ok (.value (.tuple #[])) w' ∧ SSt blk off D x y w w' (Sort.swp d i j) := by
  subst hu hv
  subst hN
  refine ⟨_, E.swap wr d S.s.hold rfl i j hi hj, ?_⟩
  exact S.call ((Srt.start S.s.hold S.s.ltr).swap hi hj)
end
theorem sz_swp (d : Array RecR) (i j : Nat) : (Sort.swp d i j).size = d.size := by simp [Sort.swp]
end Go.Proofs.YthffmjeodoinlaaDoor

/- ShardRead: what holds in its loop. -/
import Derived.Test.YtkgalkaafocnjaaShRd
import Derived.Test.YtkgalkaafocnjaaWithVals
import Derived.Deep.RegionHeld
namespace Go.Proofs.Ytkgalkaafocnjaa
open Go.RowKit
theorem Rdr.keep {w w' : World} {R : Nat} {a : Option Addr} {n cap : Nat} {p : Int} {ok : Bool} (h : Rdr w R a n cap p ok) (hb : w'.heap[R]? = w.heap[R]?) : Rdr w' R a n cap p ok := by
  have c : ∀ o, w'.cell? ⟨R, o, none⟩ = w.cell? ⟨R, o, none⟩ := fun o => World.cell?_of_block (w := w) (a := ⟨R, o, none⟩) hb
  have f : ∀ o, w'.frozen? ⟨R, o, none⟩ = w.frozen? ⟨R, o, none⟩ := fun o => by unfold World.frozen?; rw [hb]
  exact ⟨(c 0).trans h.c0, (c 1).trans h.c1, (c 2).trans h.c2, (f 1).trans h.f1, (f 2).trans h.f2⟩
theorem Rdr.al {w : World} {R : Nat} {a : Option Addr} {n cap : Nat} {p : Int} {ok : Bool} (h : Rdr w R a n cap p ok) (o : Obj) : Rdr (w.alloc o) R a n cap p ok := h.below ((Below.refl _ _).alloc (Nat.le_refl _) _)
theorem Rdr.dr {w : World} {R : Nat} {a : Option Addr} {n cap : Nat} {p : Int} {ok : Bool} (h : Rdr w R a n cap p ok) : Rdr w.drew R a n cap p ok := ⟨h.c0, h.c1, h.c2, h.f1, h.f2⟩
theorem Win.al {lo hi : Nat} {w0 w : World} (h : Win lo hi w0 w) (o : Obj) : Win lo hi w0 (w.alloc o) := h.trans (Win.of_below ((Below.refl _ _).alloc (Nat.le_refl _) _))
theorem Win.dr {lo hi : Nat} {w0 w : World} (h : Win lo hi w0 w) : Win lo hi w0 w.drew := h.trans (Win.of_below (Below.refl _ _).drew)
theorem Win.put {lo hi : Nat} {w0 w : World} (h : Win lo hi w0 w) {b o : Nat} (v : Value) (hb : w0.heap.size ≤ b) : Win lo hi w0 (w.setCell ⟨b, o, none⟩ v) :=
  ⟨h.os, h.tape, h.output, by rw [size_set]; exact h.size, fun k hk hkk => by rw [Below.heap_setCell _ _ _ _ (show k ≠ b by omega)]; exact h.block k hk hkk⟩
/-- What one round reads. -/
theorem read_step {zs : List Int} {l : SEdgeR} {p v p1 z p2 x p3 y p4 : Int} {o1 o2 o3 o4 : Bool} (Q1 : RdNum zs p true v p1 o1) (Q2 : RdZig zs p1 o1 z p2 o2) (Q3 : RdNum zs p2 o2 x p3 o3) (Q4 : RdZig zs p3 o3 y p4 o4) :
    (o4 = true → readEd zs l p = (true, ⟨wrap64 (l.fr + v), wrap64 (l.to + z), x, wrap64 (l.ix + y), 0⟩, p4) ∧ p + 4 ≤ p4 ∧ p4 ≤ zs.length) ∧ (o4 = false → (readEd zs l p).1 = false) := by
  constructor
  · intro h4
    obtain ⟨h3, g4, e4, f4⟩ := Q4.yes h4
    obtain ⟨h2, g3, e3, f3⟩ := Q3.yes h3
    obtain ⟨h1, g2, e2, f2⟩ := Q2.yes h2
    obtain ⟨_, g1, e1, f1⟩ := Q1.yes h1
    subst e1 f1 e2 f2 e3 f3 e4 f4
    have b1 := getVarF_ok g1
    have b2 := getZigF_ok g2
    have b3 := getVarF_ok g3
    have b4 := getZigF_ok g4
    refine ⟨?_, by omega, by omega⟩
    unfold readEd
    rw [g1, g2, g3, g4]
    rfl
  · intro h4
    unfold readEd
    simp only
    cases h1 : (getVarF zs p).2.2 with
    | false => rfl
    | true =>
      have t1 : o1 = true := by
        cases o1 with
        | true => rfl
        | false => rcases Q1.no rfl with h | h
                   · cases h
                   · rw [h1] at h; cases h
      obtain ⟨_, _, e1, f1⟩ := Q1.yes t1
      rw [← f1]
      cases h2 : (getZigF zs p1).2.2 with
      | false => rfl
      | true =>
        have t2 : o2 = true := by
          cases o2 with
          | true => rfl
          | false => rcases Q2.no rfl with h | h
                     · rw [t1] at h; cases h
                     · rw [h2] at h; cases h
        obtain ⟨_, _, e2, f2⟩ := Q2.yes t2
        rw [← f2]
        cases h3 : (getVarF zs p2).2.2 with
        | false => rfl
        | true =>
          have t3 : o3 = true := by
            cases o3 with
            | true => rfl
            | false => rcases Q3.no rfl with h | h
                       · rw [t2] at h; cases h
                       · rw [h3] at h; cases h
          obtain ⟨_, _, e3, f3⟩ := Q3.yes t3
          rw [← f3]
          rcases Q4.no h4 with h | h
          · rw [t3] at h; cases h
          · rw [h]; rfl
/-- What holds at each round's head. -/
structure RdInv (f : Bool → Bool) (zs : List Int) (R : Nat) (a : Option Addr) (n cap : Nat) (w : World) (Sb L : Nat) (v1 v2 : Int) (G : Bool) (N : Nat) (l0 : SEdgeR) (p0 : Int) (j : Nat) (p : Int) (ok : Bool) (es : List SEdgeR) (l : SEdgeR) (A : Option Addr) (C : Nat) (wr : World) : Prop where
  rdr : Rdr wr R a n cap p (f ok)
  box : Box5 wr L l
  sb : Box3 wr Sb v1 v2 A j C
  own : OwnS encSEdge 5 92 w.heap.size wr.heap.size wr A j C es
  farR : (Value.slice A j C).ownBlock ≠ some R
  farS : (Value.slice A j C).ownBlock ≠ some Sb
  farL : (Value.slice A j C).ownBlock ≠ some L
  rs : R < Sb
  sl : Sb < L
  ws : w.heap.size < Sb
  rb : R ≠ w.heap.size
  res : Box3 wr w.heap.size 0 0 none 0 0
  farB : (Value.slice A j C).ownBlock ≠ some w.heap.size
  at' : In64 p
  jb : j ≤ n + 1
  low : ok = true → (j : Int) ≤ p ∧ p ≤ n ∧ j ≤ N
  yes : ok = true → G = true ∧ readEds zs N l0 p0 = ((readEds zs (N - j) l p).1, es ++ (readEds zs (N - j) l p).2.1, (readEds zs (N - j) l p).2.2)
  no : ok = false → (G && (readEds zs N l0 p0).1) = false
  win : Win R (R + 1) w wr
/-- Behind the four reads: block E holds the edge that was read. -/
structure RdMid (f : Bool → Bool) (zs : List Int) (R : Nat) (a : Option Addr) (n cap : Nat) (w : World) (Sb L : Nat) (v1 v2 : Int) (j : Nat) (p : Int) (es : List SEdgeR) (l : SEdgeR) (A : Option Addr) (C : Nat) (E : Nat) (e : SEdgeR) (p4 : Int) (ok4 : Bool) (wr : World) : Prop where
  rdr : Rdr wr R a n cap p4 (f ok4)
  box : Box5 wr L l
  boxE : Box5 wr E e
  sb : Box3 wr Sb v1 v2 A j C
  own : OwnS encSEdge 5 92 w.heap.size wr.heap.size wr A j C es
  farR : (Value.slice A j C).ownBlock ≠ some R
  farS : (Value.slice A j C).ownBlock ≠ some Sb
  farL : (Value.slice A j C).ownBlock ≠ some L
  farE : (Value.slice A j C).ownBlock ≠ some E
  le : L < E
  res : Box3 wr w.heap.size 0 0 none 0 0
  at' : In64 p4
  yes : ok4 = true → readEd zs l p = (true, e, p4) ∧ p + 4 ≤ p4 ∧ p4 ≤ n
  no : ok4 = false → (readEd zs l p).1 = false
  win : Win R (R + 1) w wr
theorem RdInv.mid {f : Bool → Bool} {zs : List Int} {R : Nat} {a : Option Addr} {n cap : Nat} {w : World} {Sb L : Nat} {v1 v2 : Int} {G : Bool} {N : Nat} {l0 : SEdgeR} {p0 : Int} {j : Nat} {p : Int} {ok : Bool} {es : List SEdgeR} {l : SEdgeR} {A : Option Addr} {C : Nat} {wr : World}
    (h : RdInv f zs R a n cap w Sb L v1 v2 G N l0 p0 j p ok es l A C wr) {v pa z pb x pc y p4 : Int} {oa ob oc o4 : Bool} (hz : zs.length = n) (Q1 : RdNum zs p true v pa oa) (Q2 : RdZig zs pa oa z pb ob) (Q3 : RdNum zs pb ob x pc oc) (Q4 : RdZig zs pc oc y p4 o4)
    {w' : World} {E : Nat} (hW : Win R (R + 1) wr w') (hE : wr.heap.size ≤ E) (hR : Rdr w' R a n cap p4 (f o4)) (hb : Box5 w' E ⟨wrap64 (l.fr + v), wrap64 (l.to + z), x, wrap64 (l.ix + y), 0⟩) :
    RdMid f zs R a n cap w Sb L v1 v2 j p es l A C E ⟨wrap64 (l.fr + v), wrap64 (l.to + z), x, wrap64 (l.ix + y), 0⟩ p4 o4 w' := by
  have hs := read_step (l := l) Q1 Q2 Q3 Q4
  have hL := h.box.lt
  have hS := h.sb.lt
  have hrs := h.rs
  have hsl := h.sl
  have hrb := h.rb
  have hB := h.res.lt
  refine ⟨hR, h.box.keep (hW.block L hL (by omega)), hb, h.sb.keep (hW.block Sb hS (by omega)), ?_, h.farR, h.farS, h.farL, (fun e => by have := (World.ownsRow.lt h.own.own _ e).2; omega), by omega, h.res.keep (hW.block _ hB (by omega)), Q4.at', (fun h4 => by have := hs.1 h4; rw [hz] at this; exact this), hs.2, h.win.trans hW⟩
  refine (h.own.keep (fun g hg => hW.block g (World.ownsRow.lt h.own.own g hg).2 (by
    have hne : g ≠ R := fun e => h.farR (by rw [← e]; exact hg)
    omega)) hW.size (Nat.le_refl _))
theorem RdMid.next {f : Bool → Bool} {zs : List Int} {R : Nat} {a : Option Addr} {n cap : Nat} {w : World} {Sb L : Nat} {v1 v2 : Int} {G : Bool} {N : Nat} {l0 : SEdgeR} {p0 : Int} {j : Nat} {p : Int} {es : List SEdgeR} {l : SEdgeR} {A : Option Addr} {C E : Nat} {e : SEdgeR} {p4 : Int} {ok4 : Bool} {wr wm w2 : World} {A2 : Option Addr} {C2 : Nat}
    (h : RdMid f zs R a n cap w Sb L v1 v2 j p es l A C E e p4 ok4 wm) (hi : RdInv f zs R a n cap w Sb L v1 v2 G N l0 p0 j p true es l A C wr) (hjN : j < N) (t : TypeId)
    (ho2 : w2.ownsRow w.heap.size 92 5 (.slice A2 (j + 1) C2) (j + 1) (es.flatMap encSEdge ++ encSEdge e)) (hg2 : (wm.alloc (.cells #[.int .i64 e.fr, .int .i64 e.to, .int .i64 e.wt, .int .i64 e.ix, .int .i64 e.val] t)).grownBy w2 (Value.slice A j C).ownBlock)
    (hk2 : (Value.slice A2 (j + 1) C2).ownBlock = (Value.slice A j C).ownBlock ∨ ∀ g, (Value.slice A2 (j + 1) C2).ownBlock = some g → (wm.alloc (.cells #[.int .i64 e.fr, .int .i64 e.to, .int .i64 e.wt, .int .i64 e.ix, .int .i64 e.val] t)).heap.size ≤ g) (hn : n ≤ 1048576) :
    RdInv f zs R a n cap w Sb L v1 v2 G N l0 p0 (j + 1) p4 ok4 (es ++ [e]) e A2 C2 ((((((w2.setCell ⟨Sb, 2, none⟩ (.slice A2 (j + 1) C2)).setCell ⟨L, 0, none⟩ (.int .i64 e.fr)).setCell ⟨L, 1, none⟩ (.int .i64 e.to)).setCell ⟨L, 2, none⟩ (.int .i64 e.wt)).setCell ⟨L, 3, none⟩ (.int .i64 e.ix)).setCell ⟨L, 4, none⟩ (.int .i64 e.val)) := by
  obtain ⟨W, hWd⟩ : ∃ W, W = wm.alloc (.cells #[.int .i64 e.fr, .int .i64 e.to, .int .i64 e.wt, .int .i64 e.ix, .int .i64 e.val] t) := ⟨_, rfl⟩
  rw [← hWd] at hg2 hk2
  have hbW : Below wm.heap.size wm W := by rw [hWd]; exact (Below.refl _ _).alloc (Nat.le_refl _) _
  have hszW := hbW.size
  have hR0 := h.rdr.lt
  have hS0 := h.sb.lt
  have hL0 := h.box.lt
  have hrs := hi.rs
  have hsl := hi.sl
  have hws := hi.ws
  have far2 : ∀ b, b < wm.heap.size → (Value.slice A j C).ownBlock ≠ some b → (Value.slice A2 (j + 1) C2).ownBlock ≠ some b := by
    intro b hb hne e1
    rcases hk2 with h1 | h1
    · rw [h1] at e1; exact hne e1
    · have := h1 b e1; omega
  have blk : ∀ b, b < wm.heap.size → (Value.slice A j C).ownBlock ≠ some b → w2.heap[b]? = wm.heap[b]? := fun b hb hne =>
    (hg2.block b (by omega) (fun e1 => hne e1.symm)).trans (hbW.block b hb)
  have hr2 := h.rdr.keep (blk R hR0 h.farR)
  have hl2 := h.box.keep (blk L hL0 h.farL)
  have hs2 := h.sb.keep (blk Sb hS0 h.farS)
  have hB2 := h.res.keep (blk w.heap.size h.res.lt hi.farB)
  have wS := Win.set (lo := Sb) (hi := Sb + 1) w2 Sb 2 (.slice A2 (j + 1) C2) (Nat.le_refl _) (Nat.lt_succ_self _)
  have wL := put5_win (w2.setCell ⟨Sb, 2, none⟩ (.slice A2 (j + 1) C2)) L e
  have hrS := hr2.keep (wS.block R hr2.lt (by omega))
  have hrL := hrS.keep (wL.block R hrS.lt (by omega))
  have hlS := hl2.keep (wS.block L hl2.lt (by omega))
  have hsS : Box3 (w2.setCell ⟨Sb, 2, none⟩ (.slice A2 (j + 1) C2)) Sb v1 v2 A2 (j + 1) C2 := by
    refine ⟨?_, ?_, World.cell?_setCell_same _ _ _ hs2.c2, ?_, ?_, ?_⟩
    · rw [World.cell?_setCell_other _ _ _ _ (by simp)]; exact hs2.c0
    · rw [World.cell?_setCell_other _ _ _ _ (by simp)]; exact hs2.c1
    · rw [World.frozen?_setCell]; exact hs2.f0
    · rw [World.frozen?_setCell]; exact hs2.f1
    · rw [World.frozen?_setCell]; exact hs2.f2
  have hBS := hB2.keep (wS.block w.heap.size hB2.lt (by omega))
  have hBL := hBS.keep (wL.block w.heap.size hBS.lt (by omega))
  have hsL := hsS.keep (wL.block Sb hsS.lt (by omega))
  have hle : es.length = j := h.own.len
  have hjb := hi.jb
  have ho3 : OwnS encSEdge 5 92 w.heap.size w2.heap.size w2 A2 (j + 1) C2 (es ++ [e]) := OwnS.of (by rw [List.flatMap_append]; simpa using ho2) (by simp [hle]) (by omega)
  have hfS := far2 Sb hS0 h.farS
  have hfL := far2 L hL0 h.farL
  have ho4 := ho3.keep (fun g hg => wS.block g (World.ownsRow.lt ho2 g hg).2 (by
    have hne : g ≠ Sb := fun e1 => hfS (by rw [← e1]; exact hg)
    omega)) wS.size (Nat.le_refl _)
  have ho5 := ho4.keep (fun g hg => wL.block g (World.ownsRow.lt ho4.own g hg).2 (by
    have hne : g ≠ L := fun e1 => hfL (by rw [← e1]; exact hg)
    omega)) wL.size (Nat.le_refl _)
  have hbase : ∀ k, (Value.slice A j C).ownBlock = some k → w.heap.size ≤ k := fun k hk => (World.ownsRow.lt h.own.own k hk).1
  have hw2 : Win R (R + 1) w w2 := by
    refine ⟨hg2.os.trans (hbW.os.trans h.win.os), hg2.tape.trans (hbW.tape.trans h.win.tape), hg2.output.trans (hbW.output.trans h.win.output), Nat.le_trans h.win.size (Nat.le_trans hszW hg2.size), fun k hk hkk => ?_⟩
    have hkm := h.win.size
    rw [hg2.block k (by omega) (fun e1 => by have := hbase k e1.symm; omega), hbW.block k (by omega), h.win.block k hk hkk]
  refine ⟨hrL, hlS.put e, hsL, ho5, far2 R hR0 h.farR, hfS, hfL, hrs, hsl, hws, hi.rb, hBL, far2 w.heap.size h.res.lt hi.farB, h.at', ?_, ?_, ?_, ?_, ?_⟩
  · have := hi.low rfl; omega
  · intro h4
    have h1 := (h.yes h4).2
    have h2 := hi.low rfl
    omega
  · intro h4
    have h1 := (h.yes h4).1
    obtain ⟨hG, h2⟩ := hi.yes rfl
    rw [show N - j = (N - (j + 1)) + 1 from by omega, readEds_yes (by rw [h1]), h1] at h2
    simp only at h2
    rw [h2, List.append_assoc]
    exact ⟨hG, rfl⟩
  · intro h4
    have h1 := h.no h4
    have h2 := (hi.yes rfl).2
    rw [show N - j = (N - (j + 1)) + 1 from by omega] at h2
    have h3 := readEds_no (n := N - (j + 1)) h1
    rw [h2]
    simp only
    rw [h3, Bool.and_false]
  · exact ((((((hw2.put _ (Nat.le_of_lt hws)).put _ (by omega)).put _ (by omega)).put _ (by omega)).put _ (by omega)).put _ (by omega))
/-- The three numbers ahead of the edges. -/
theorem read_head {zs : List Int} {p v1 p1 v2 p2 p3 : Int} {N : Nat} {o1 o2 o3 : Bool} (Q1 : RdNum zs p true v1 p1 o1) (Q2 : RdNum zs p1 o1 v2 p2 o2) (Q3 : RdNum zs p2 o2 (N : Int) p3 o3) :
    (o3 = true → readSh zs p = ((readEds zs N ⟨0, v1, 0, 0, 0⟩ p3).1, (v1, v2, (readEds zs N ⟨0, v1, 0, 0, 0⟩ p3).2.1), (readEds zs N ⟨0, v1, 0, 0, 0⟩ p3).2.2) ∧ 0 ≤ p3 ∧ p3 ≤ zs.length) ∧ (o3 = false → (readSh zs p).1 = false) := by
  constructor
  · intro h3
    obtain ⟨h2, g3, e3, f3⟩ := Q3.yes h3
    obtain ⟨h1, g2, e2, f2⟩ := Q2.yes h2
    obtain ⟨_, g1, e1, f1⟩ := Q1.yes h1
    subst e1 f1 e2 f2 f3
    have b3 := getVarF_ok g3
    refine ⟨?_, by omega, by omega⟩
    unfold readSh
    rw [g1, g2, g3, ← e3, Int.toNat_natCast]
    rfl
  · intro h3
    unfold readSh
    simp only
    cases h1 : (getVarF zs p).2.2 with
    | false => rfl
    | true =>
      have t1 : o1 = true := by
        cases o1 with
        | true => rfl
        | false => rcases Q1.no rfl with h | h
                   · cases h
                   · rw [h1] at h; cases h
      obtain ⟨_, _, e1, f1⟩ := Q1.yes t1
      rw [← f1]
      cases h2 : (getVarF zs p1).2.2 with
      | false => rfl
      | true =>
        have t2 : o2 = true := by
          cases o2 with
          | true => rfl
          | false => rcases Q2.no rfl with h | h
                     · rw [t1] at h; cases h
                     · rw [h2] at h; cases h
        obtain ⟨_, _, e2, f2⟩ := Q2.yes t2
        rw [← f2]
        rcases Q3.no h3 with h | h
        · rw [t2] at h; cases h
        · rw [h]; rfl
theorem readF_long {zs : List Int} {p v1 p1 v2 p2 p3 : Int} {N : Nat} {o1 o2 o3 : Bool} (Q1 : RdNum zs p true v1 p1 o1) (Q2 : RdNum zs p1 o1 v2 p2 o2) (Q3 : RdNum zs p2 o2 (N : Int) p3 o3) (hN : 400 < N) : shardReadF zs p = ((0, 0, []), 0, false) := by
  have hh := read_head Q1 Q2 Q3
  cases h3 : o3 with
  | false => exact shardReadF_bad (hh.2 h3)
  | true =>
    obtain ⟨h1, _, _⟩ := hh.1 h3
    cases hr : (readEds zs N ⟨0, v1, 0, 0, 0⟩ p3).1 with
    | false => exact shardReadF_bad (by rw [h1]; exact hr)
    | true =>
      have hl := readEds_len _ _ _ hr
      apply shardReadF_no
      rw [h1]
      cases hs : shOkB (v1, v2, (readEds zs N ⟨0, v1, 0, 0, 0⟩ p3).2.1) with
      | false => rfl
      | true =>
        have := (shardB_yes hs).2.2.2.1
        rw [hl] at this
        omega
theorem RdInv.bad {f : Bool → Bool} {zs : List Int} {R : Nat} {a : Option Addr} {n cap : Nat} {w : World} {Sb L : Nat} {q v1 p1 v2 p2 : Int} {N : Nat} {p3 : Int} {j : Nat} {p : Int} {o1 o2 o3 : Bool} {es : List SEdgeR} {l : SEdgeR} {A : Option Addr} {C : Nat} {wr : World}
    (h : RdInv f zs R a n cap w Sb L v1 v2 o3 N ⟨0, v1, 0, 0, 0⟩ p3 j p false es l A C wr) (Q1 : RdNum zs q true v1 p1 o1) (Q2 : RdNum zs p1 o1 v2 p2 o2) (Q3 : RdNum zs p2 o2 (N : Int) p3 o3) : (readSh zs q).1 = false := by
  have hh := read_head Q1 Q2 Q3
  have hn := h.no rfl
  cases h3 : o3 with
  | false => exact hh.2 h3
  | true =>
    rw [h3, Bool.true_and] at hn
    rw [(hh.1 h3).1]
    exact hn
theorem RdInv.good {f : Bool → Bool} {zs : List Int} {R : Nat} {a : Option Addr} {n cap : Nat} {w : World} {Sb L : Nat} {q v1 p1 v2 p2 : Int} {N : Nat} {p3 : Int} {p : Int} {o1 o2 o3 : Bool} {es : List SEdgeR} {l : SEdgeR} {A : Option Addr} {C : Nat} {wr : World}
    (h : RdInv f zs R a n cap w Sb L v1 v2 o3 N ⟨0, v1, 0, 0, 0⟩ p3 N p true es l A C wr) (Q1 : RdNum zs q true v1 p1 o1) (Q2 : RdNum zs p1 o1 v2 p2 o2) (Q3 : RdNum zs p2 o2 (N : Int) p3 o3) : readSh zs q = (true, (v1, v2, es), p) := by
  have hh := read_head Q1 Q2 Q3
  obtain ⟨hG, he⟩ := h.yes rfl
  rw [Nat.sub_self] at he
  rw [(hh.1 hG).1, he]
  simp [readEds]
/-- How reading a shard ends, inside the reader's method. -/
def RetRdS (F : (Int × Int × List SEdgeR) × Int × Bool) (R : Nat) (a : Option Addr) (n cap : Nat) (w : World) (en : Ending) (w' : World) : Prop :=
  ∃ (y : ShardR) (p' : Int) (ok' : Bool), en = .returned (.agg #[.int .i64 y.lo, .int .i64 y.hi, .slice y.edgesA y.edgesN y.edgesC]) ∧ Rdr w' R a n cap p' ok' ∧ OwnS encSEdge 5 92 w.heap.size w'.heap.size w' y.edgesA y.edgesN y.edgesC y.edges ∧ Win R (R + 1) w w' ∧ y.edgesN ≤ n + 1 ∧ (ok' = true → F = (datShard y, p', true)) ∧ (ok' = false → F = ((0, 0, []), 0, false))
theorem RdInv.later {f : Bool → Bool} {zs : List Int} {R : Nat} {a : Option Addr} {n cap : Nat} {w : World} {Sb L : Nat} {v1 v2 : Int} {G : Bool} {N : Nat} {l0 : SEdgeR} {p0 : Int} {j : Nat} {p : Int} {ok : Bool} {es : List SEdgeR} {l : SEdgeR} {A : Option Addr} {C : Nat} {wr w' : World}
    (h : RdInv f zs R a n cap w Sb L v1 v2 G N l0 p0 j p ok es l A C wr) (hb : Below wr.heap.size wr w') : RdInv f zs R a n cap w Sb L v1 v2 G N l0 p0 j p ok es l A C w' :=
  ⟨h.rdr.below hb, h.box.below hb, h.sb.below hb, (h.own.below hb).grow hb.size (Nat.le_refl _), h.farR, h.farS, h.farL, h.rs, h.sl, h.ws, h.rb, h.res.below hb, h.farB, h.at', h.jb, h.low, h.yes, h.no, h.win.trans (Win.of_below hb)⟩
theorem RdInv.out {f : Bool → Bool} {zs : List Int} {R : Nat} {a : Option Addr} {n cap : Nat} {w : World} {Sb L : Nat} {v1 v2 : Int} {G : Bool} {N : Nat} {l0 : SEdgeR} {p0 : Int} {j : Nat} {p : Int} {ok : Bool} {es : List SEdgeR} {l : SEdgeR} {A : Option Addr} {C : Nat} {wr : World}
    (h : RdInv f zs R a n cap w Sb L v1 v2 G N l0 p0 j p ok es l A C wr) (b : Bool) {F : (Int × Int × List SEdgeR) × Int × Bool} (hy : b = true → F = ((v1, v2, es), p, true)) (hno : b = false → F = ((0, 0, []), 0, false)) :
    RetRdS F R a n cap w (.returned (.agg #[.int .i64 v1, .int .i64 v2, .slice A j C])) ((((wr.setCell ⟨R, 2, none⟩ (.bool b)).setCell ⟨w.heap.size, 0, none⟩ (.int .i64 v1)).setCell ⟨w.heap.size, 1, none⟩ (.int .i64 v2)).setCell ⟨w.heap.size, 2, none⟩ (.slice A j C)) := by
  have hrb := h.rb
  have hr := h.rdr.setOk b
  have w1 := Win.set (lo := R) (hi := R + 1) wr R 2 (.bool b) (Nat.le_refl _) (Nat.lt_succ_self _)
  have w2 := put3_win (wr.setCell ⟨R, 2, none⟩ (.bool b)) w.heap.size (.int .i64 v1) (.int .i64 v2) (.slice A j C)
  have o1 := h.own.keep (fun g hg => w1.block g (World.ownsRow.lt h.own.own g hg).2 (by
    have hne : g ≠ R := fun e => h.farR (by rw [← e]; exact hg)
    omega)) w1.size (Nat.le_refl _)
  have o2 := o1.keep (fun g hg => w2.block g (World.ownsRow.lt o1.own g hg).2 (by
    have hne : g ≠ w.heap.size := fun e => h.farB (by rw [← e]; exact hg)
    omega)) w2.size (Nat.le_refl _)
  exact ⟨⟨v1, v2, A, j, C, es⟩, p, b, rfl, hr.keep (w2.block R hr.lt (by omega)), o2, ((((h.win.trans w1).put _ (Nat.le_refl _)).put _ (Nat.le_refl _)).put _ (Nat.le_refl _)), h.jb, hy, hno⟩
theorem keepW {R L : Nat} {wr w w' : World} {x0 x1 x3 : Value} (hW : Win R (R + 1) w w') (hL : R < L) (h : w.cell? ⟨L, 0, none⟩ = some x0 ∧ w.cell? ⟨L, 1, none⟩ = some x1 ∧ w.cell? ⟨L, 3, none⟩ = some x3 ∧ Win R (R + 1) wr w) :
    w'.cell? ⟨L, 0, none⟩ = some x0 ∧ w'.cell? ⟨L, 1, none⟩ = some x1 ∧ w'.cell? ⟨L, 3, none⟩ = some x3 ∧ Win R (R + 1) wr w' :=
  ⟨cell_win hW h.1 (by omega), cell_win hW h.2.1 (by omega), cell_win hW h.2.2.1 (by omega), h.2.2.2.trans hW⟩
theorem keepA {R L : Nat} {wr w : World} {x0 x1 x3 : Value} (o : Obj) (hL : R < L) (h : w.cell? ⟨L, 0, none⟩ = some x0 ∧ w.cell? ⟨L, 1, none⟩ = some x1 ∧ w.cell? ⟨L, 3, none⟩ = some x3 ∧ Win R (R + 1) wr w) :
    (w.alloc o).cell? ⟨L, 0, none⟩ = some x0 ∧ (w.alloc o).cell? ⟨L, 1, none⟩ = some x1 ∧ (w.alloc o).cell? ⟨L, 3, none⟩ = some x3 ∧ Win R (R + 1) wr (w.alloc o) := keepW (Win.of_below ((Below.refl _ _).alloc (Nat.le_refl _) _)) hL h
theorem keepD {R L : Nat} {wr w : World} {x0 x1 x3 : Value} (hL : R < L) (h : w.cell? ⟨L, 0, none⟩ = some x0 ∧ w.cell? ⟨L, 1, none⟩ = some x1 ∧ w.cell? ⟨L, 3, none⟩ = some x3 ∧ Win R (R + 1) wr w) :
    w.drew.cell? ⟨L, 0, none⟩ = some x0 ∧ w.drew.cell? ⟨L, 1, none⟩ = some x1 ∧ w.drew.cell? ⟨L, 3, none⟩ = some x3 ∧ Win R (R + 1) wr w.drew := keepW (Win.of_below (Below.refl _ _).drew) hL h
theorem sizeW {R L : Nat} {wr w : World} {x0 x1 x3 : Value} (h : w.cell? ⟨L, 0, none⟩ = some x0 ∧ w.cell? ⟨L, 1, none⟩ = some x1 ∧ w.cell? ⟨L, 3, none⟩ = some x3 ∧ Win R (R + 1) wr w) : wr.heap.size ≤ w.heap.size := h.2.2.2.size
theorem belW {R L : Nat} {w0 wr w : World} {x0 x1 x3 : Value} (hb : Below w0.heap.size w0 wr) (hR : w0.heap.size ≤ R) (h : w.cell? ⟨L, 0, none⟩ = some x0 ∧ w.cell? ⟨L, 1, none⟩ = some x1 ∧ w.cell? ⟨L, 3, none⟩ = some x3 ∧ Win R (R + 1) wr w) : Below w0.heap.size w0 w := hb.trans (h.2.2.2.below hR hb.size)
theorem winW {R L : Nat} {wr w : World} {x0 x1 x3 : Value} (h : w.cell? ⟨L, 0, none⟩ = some x0 ∧ w.cell? ⟨L, 1, none⟩ = some x1 ∧ w.cell? ⟨L, 3, none⟩ = some x3 ∧ Win R (R + 1) wr w) : Win R (R + 1) wr w := h.2.2.2
theorem keepP {R L E : Nat} {wr w : World} {x0 x1 x3 u0 u1 u2 u3 u4 : Value} (_hL : R < L) (hLr : L < wr.heap.size) (hE : wr.heap.size ≤ E) (h : w.cell? ⟨L, 0, none⟩ = some x0 ∧ w.cell? ⟨L, 1, none⟩ = some x1 ∧ w.cell? ⟨L, 3, none⟩ = some x3 ∧ Win R (R + 1) wr w) :
    (((((w.setCell ⟨E, 0, none⟩ u0).setCell ⟨E, 1, none⟩ u1).setCell ⟨E, 2, none⟩ u2).setCell ⟨E, 3, none⟩ u3).setCell ⟨E, 4, none⟩ u4).cell? ⟨L, 0, none⟩ = some x0 ∧ (((((w.setCell ⟨E, 0, none⟩ u0).setCell ⟨E, 1, none⟩ u1).setCell ⟨E, 2, none⟩ u2).setCell ⟨E, 3, none⟩ u3).setCell ⟨E, 4, none⟩ u4).cell? ⟨L, 1, none⟩ = some x1 ∧ (((((w.setCell ⟨E, 0, none⟩ u0).setCell ⟨E, 1, none⟩ u1).setCell ⟨E, 2, none⟩ u2).setCell ⟨E, 3, none⟩ u3).setCell ⟨E, 4, none⟩ u4).cell? ⟨L, 3, none⟩ = some x3 ∧ Win R (R + 1) wr (((((w.setCell ⟨E, 0, none⟩ u0).setCell ⟨E, 1, none⟩ u1).setCell ⟨E, 2, none⟩ u2).setCell ⟨E, 3, none⟩ u3).setCell ⟨E, 4, none⟩ u4) := by
  have hne : E ≠ L := by omega
  refine ⟨?_, ?_, ?_, (((((h.2.2.2.put _ hE).put _ hE).put _ hE).put _ hE).put _ hE)⟩
  · rw [World.cell?_setCell_far _ _ _ _ hne, World.cell?_setCell_far _ _ _ _ hne, World.cell?_setCell_far _ _ _ _ hne, World.cell?_setCell_far _ _ _ _ hne, World.cell?_setCell_far _ _ _ _ hne]; exact h.1
  · rw [World.cell?_setCell_far _ _ _ _ hne, World.cell?_setCell_far _ _ _ _ hne, World.cell?_setCell_far _ _ _ _ hne, World.cell?_setCell_far _ _ _ _ hne, World.cell?_setCell_far _ _ _ _ hne]; exact h.2.1
  · rw [World.cell?_setCell_far _ _ _ _ hne, World.cell?_setCell_far _ _ _ _ hne, World.cell?_setCell_far _ _ _ _ hne, World.cell?_setCell_far _ _ _ _ hne, World.cell?_setCell_far _ _ _ _ hne]; exact h.2.2.1
theorem keepR {R L : Nat} {wr w : World} {o o' : Obj} {x0 x1 x3 : Value} (hL : R < L) (hLw : L < w.heap.size) (h : (w.alloc o).cell? ⟨L, 0, none⟩ = some x0 ∧ (w.alloc o).cell? ⟨L, 1, none⟩ = some x1 ∧ (w.alloc o).cell? ⟨L, 3, none⟩ = some x3 ∧ Win R (R + 1) wr (w.alloc o)) (hW : Win R (R + 1) wr w) :
    (w.alloc o').cell? ⟨L, 0, none⟩ = some x0 ∧ (w.alloc o').cell? ⟨L, 1, none⟩ = some x1 ∧ (w.alloc o').cell? ⟨L, 3, none⟩ = some x3 ∧ Win R (R + 1) wr (w.alloc o') := by
  have e : ∀ q (ob : Obj), (w.alloc ob).cell? ⟨L, q, none⟩ = w.cell? ⟨L, q, none⟩ := fun q ob => World.cell?_alloc_lt _ _ _ hLw
  rw [e, e, e] at h
  exact keepA o' hL ⟨h.1, h.2.1, h.2.2.1, hW⟩
def zE : SEdgeR := ⟨0, 0, 0, 0, 0⟩
theorem box_al {R : Nat} {w w' : World} {t : TypeId} (hW : Win R (R + 1) (w.alloc (.cells #[.int .i64 0, .int .i64 0, .int .i64 0, .int .i64 0, .int .i64 0] t)) w') (hR : R < w.heap.size) : Box5 w' w.heap.size zE :=
  (Box5.new w zE t).keep (hW.block _ (by simp) (by omega))
theorem box_keep {R E : Nat} {w w' : World} (h : Box5 w E zE) (hW : Win R (R + 1) w w') (hR : R < E) : Box5 w' E zE := h.keep (hW.block _ h.lt (by omega))
end Go.Proofs.Ytkgalkaafocnjaa

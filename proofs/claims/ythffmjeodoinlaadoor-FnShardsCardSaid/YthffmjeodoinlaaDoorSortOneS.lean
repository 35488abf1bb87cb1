/- SortOne of the reference: what it computes. -/
import Derived.Test.YthffmjeodoinlaaDoorSortP
import Derived.Test.YthffmjeodoinlaaDoorSortOne
import Derived.Test.YthffmjeodoinlaaDoorOutR
import Derived.Deep.RegionLaw
namespace Go.Proofs.YthffmjeodoinlaaDoor
open Go.RowKit
theorem own_take {w : World} {b : Nat} {e : TypeId} {sz : Nat} {a : Option Addr} {n cap : Nat} {xs : List Value} (h : w.ownsRow b e sz (.slice a n cap) n xs) (m : Nat) (hm : m ≤ n) : w.ownsRow b e sz (.slice a m cap) m (xs.take (m * sz)) := by
  refine ⟨?_, ?_⟩
  · rw [List.length_take, h.1, Nat.min_eq_left (Nat.mul_le_mul_right sz hm)]
  · rcases h.2 with ⟨hv, h0⟩ | ⟨g, cap', cur, hv, hb, hc, hle, hmx, hsz, ht⟩
    · cases hv
      obtain rfl : m = 0 := by omega
      exact Or.inl ⟨rfl, rfl⟩
    · cases hv
      refine Or.inr ⟨g, cap, cur, rfl, hb, hc, by omega, hmx, hsz, ?_⟩
      rw [← ht, List.take_take, Nat.min_eq_left (Nat.mul_le_mul_right sz hm)]
theorem OutRow.take {lo B : Nat} {e : TypeId} {sz : Nat} {w : World} {a : Option Addr} {n cap : Nat} {xs : List Value} (h : OutRow lo B e sz w a n cap xs) (m : Nat) (hm : m ≤ n) : OutRow lo B e sz w a m cap (xs.take (m * sz)) :=
  ⟨own_take h.1 m hm, h.2.imp (fun k => own_take k m hm) id⟩
theorem take_rec (L : List RecR) (m : Nat) (hm : m ≤ L.length) : (L.flatMap encRec).take (m * 3) = (L.take m).flatMap encRec := by
  conv => lhs; rw [← List.take_append_drop m L, List.flatMap_append]
  rw [List.take_append_of_le_length (by rw [len_rec, List.length_take]; omega), List.take_of_length_le (by rw [len_rec, List.length_take]; omega)]
theorem rd_drop {w : World} {b off n c : Nat} {xs : List RecR} (h : Rd encRec 3 w (some ⟨b, off, none⟩) n c xs) (p : Nat) (hp : p ≤ n) : Rd encRec 3 w (some ⟨b, off + p * 3, none⟩) (n - p) (c - p) (xs.drop p) := by
  refine ⟨by have := h.le; omega, by have := h.max; omega, by rw [List.length_drop, h.len], (fun hh => by cases hh), fun h0 => ?_⟩
  obtain ⟨b', off', ha, hl, hc⟩ := h.spot (by omega)
  cases ha
  refine ⟨b, off + p * 3, rfl, hl, fun i hi f u hu => ?_⟩
  have := hc (p + i) (by rw [List.length_drop] at hi; omega) f u (by rwa [List.getElem_drop] at hu)
  rw [← this]
  congr 2
  omega
theorem rd_keep {w w' : World} {a : Option Addr} {n c : Nat} {xs : List RecR} (h : Rd encRec 3 w a n c xs) (hd : ∀ q, (Value.slice a n c).ownBlock = some q → w'.heap[q]? = w.heap[q]?) : Rd encRec 3 w' a n c xs := by
  refine ⟨h.le, h.max, h.len, h.nil, fun h0 => ?_⟩
  obtain ⟨b, off, rfl, hl, hc⟩ := h.spot h0
  have hb := hd b rfl
  refine ⟨b, off, rfl, ?_, fun i hi f u hu => ?_⟩
  · have := Array.getElem?_eq_getElem hl
    rw [← hb] at this
    exact (Array.getElem?_eq_some_iff.1 this).1
  · rw [World.cell?_of_block (w := w) (a := ⟨b, off + i * 3 + f, none⟩) hb]
    exact hc i hi f u hu
theorem one_enc (x : RecR) : ∀ u ∈ encRec x, u.oneCell' = true := by
  intro u hu
  simp [encRec] at hu
  rcases hu with rfl | rfl | rfl <;> rfl
theorem wp_app_any {P : Program} {w : World} {o : Oper} {a : Act} {K : Act → World → Prop} {Q : Exit → Act → World → Prop} (s x : Operand) (t : TypeId)
    (ho : o.op = .call { callee := .builtin .append, args := #[s, x], argTypes := #[t, t] })
    (base : Nat) (e : TypeId) {i : TypeInfo} {z : Value} {size bytes : Nat} (ht : P.underlying t = some (.slice e)) (hi : P.info? e = some i) (hz : i.zero = some z)
    (hsize : i.size = size) (hby : i.bytes = bytes) (hzs : z.cells.size = size) (hsz : 0 < size)
    (A : Option Addr) (n C : Nat) (xs : List Value) (hs : a.eval s = .slice A n C) (hown : w.ownsRow base e size (.slice A n C) n xs)
    (ad : Option Addr) (m c : Nat) (news : List Value) (hx : a.eval x = .slice ad m c) (hl : news.length = m * size) (hnews : ∀ ad', ad = some ad' → ∀ (j : Nat) (u : Value), news[j]? = some u → w.cell? (ad'.add j) = some u)
    (hnone : ad = none → m = 0 ∧ c = 0) (h1 : ∀ u ∈ news, u.oneCell' = true)
    (h63 : n + m ≤ maxLen) (hbytes : (n + m) * bytes ≤ 140737488355328) (hbase : base ≤ w.heap.size)
    (h : ∀ (A' : Option Addr) (C' : Nat) (w' : World), w'.ownsRow base e size (.slice A' (n + m) C') (n + m) (xs ++ news) → w.grownBy w' (Value.slice A n C).ownBlock → K (a.put o.dst (.slice A' (n + m) C')) w') : o.wp P a w K Q := by
  cases ad with
  | none =>
    obtain ⟨rfl, rfl⟩ := hnone rfl
    have hn : news = [] := List.eq_nil_of_length_eq_zero (by simpa using hl)
    subst hn
    have hrun := run_append_owned_none (P := P) (w := w) base t o.type e i size ht hi _ n xs hown
    unfold Oper.wp
    simp [execOp, ho, resolve, invoke, builtin, hs, hx, hrun, Result.andThen]
    exact h A C w (by simpa using hown) (grown_refl _ _)
  | some b =>
    obtain ⟨v', w', hrun, ho', hg, _⟩ := run_append_own (P := P) (w := w) base t o.type e i z size bytes ht hi hz hsize hby hzs hsz _ n xs hown b m c news hl (hnews b rfl) h1 h63 hbytes hbase
    obtain ⟨A', C', rfl, _⟩ := own_shape ho'
    unfold Oper.wp
    simp [execOp, ho, resolve, invoke, builtin, hs, hx, hrun, Result.andThen]
    exact h A' C' w' ho' hg
/-- At a step of a region that draws its order. -/
theorem step_app_any {P : Program} {w : World} {ops : Array Oper} {o : Oper} {a : Act} {K : Act → World → Prop} {Q : Exit → Act → World → Prop} {E : Prop} (hgd : o.guard = none) (s x : Operand) (t : TypeId)
    (ho : o.op = .call { callee := .builtin .append, args := #[s, x], argTypes := #[t, t] })
    (base : Nat) (e : TypeId) {i : TypeInfo} {z : Value} {size bytes : Nat} (ht : P.underlying t = some (.slice e)) (hi : P.info? e = some i) (hz : i.zero = some z)
    (hsize : i.size = size) (hby : i.bytes = bytes) (hzs : z.cells.size = size) (hsz : 0 < size)
    (A : Option Addr) (n C : Nat) (xs : List Value) (hs : a.eval s = .slice A n C) (hown : w.ownsRow base e size (.slice A n C) n xs)
    (ad : Option Addr) (m c : Nat) (news : List Value) (hx : a.eval x = .slice ad m c) (hl : news.length = m * size) (hnews : ∀ ad', ad = some ad' → ∀ (j : Nat) (u : Value), news[j]? = some u → w.cell? (ad'.add j) = some u)
    (hnone : ad = none → m = 0 ∧ c = 0) (h1 : ∀ u ∈ news, u.oneCell' = true)
    (h63 : n + m ≤ maxLen) (hbytes : (n + m) * bytes ≤ 140737488355328) (hbase : base ≤ w.heap.size)
    (h : ∀ (A' : Option Addr) (C' : Nat) (w' : World), w'.ownsRow base e size (.slice A' (n + m) C') (n + m) (xs ++ news) → w.grownBy w' (Value.slice A n C).ownBlock → K (a.put o.dst (.slice A' (n + m) C')) w') :
    if Region.wanted o (yielded ops a.tmps) = true then Oper.wp P o a w K Q else E := by
  have hw : Region.wanted o (yielded ops a.tmps) = true := by simp [Region.wanted, hgd]
  rw [if_pos hw]
  exact wp_app_any s x t ho base e ht hi hz hsize hby hzs hsz A n C xs hs hown ad m c news hx hl hnews hnone h1 h63 hbytes hbase h
end Go.Proofs.YthffmjeodoinlaaDoor

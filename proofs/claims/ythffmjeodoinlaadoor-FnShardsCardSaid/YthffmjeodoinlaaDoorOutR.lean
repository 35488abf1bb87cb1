/- append onto an output row inside a region that draws its order. Nothing of the program. -/
import Derived.Test.YthffmjeodoinlaaDoorOut
import Derived.Deep.AppendLies
import Derived.Deep.RegionHeld3
namespace Go.Proofs.YthffmjeodoinlaaDoor
open Go.RowKit
theorem wp_app_out {P : Program} {w : World} {o : Oper} {a : Act} {K : Act → World → Prop} {Q : Exit → Act → World → Prop} (s x : Operand) (t : TypeId)
    (ho : o.op = .call { callee := .builtin .append, args := #[s, x], argTypes := #[t, t] })
    (lo B : Nat) (e : TypeId) {i : TypeInfo} {z : Value} {size bytes : Nat} (ht : P.underlying t = some (.slice e)) (hi : P.info? e = some i) (hz : i.zero = some z)
    (hsize : i.size = size) (hby : i.bytes = bytes) (hzs : z.cells.size = size) (hsz : 0 < size)
    (A : Option Addr) (n C : Nat) (xs : List Value) (hs : a.eval s = .slice A n C) (hown : OutRow lo B e size w A n C xs)
    (ad : Addr) (m c : Nat) (news : List Value) (hx : a.eval x = .slice (some ad) m c) (hl : news.length = m * size) (hnews : ∀ (j : Nat) (u : Value), news[j]? = some u → w.cell? (ad.add j) = some u)
    (h1 : ∀ u ∈ news, u.oneCell' = true) (hm : 0 < m)
    (h63 : n + m ≤ maxLen) (hbytes : (n + m) * bytes ≤ 140737488355328) (hbase : lo ≤ B) (hbB : B ≤ w.heap.size)
    (h : ∀ (A' : Option Addr) (C' : Nat) (w' : World), OutRow lo B e size w' A' (n + m) C' (xs ++ news) → Below B w w' → K (a.put o.dst (.slice A' (n + m) C')) w') : o.wp P a w K Q := by
  rcases hown.2 with hB | hC
  · refine wp_append_lies w s x t ho B e i z size bytes ht hi hz hsize hby hzs hsz _ n xs hs hB ad m c news hx hl hnews h1 hm h63 hbytes hbB _ rfl ?_
    intro g cap w' ho' hg _ _
    exact h _ _ w' ⟨own_base ho' hbase, Or.inl ho'⟩ (below_grown hg hbB (fun k hk => (World.ownsRow.lt hB k hk).1))
  · subst hC
    obtain ⟨A2, cap2, hv, hn, _⟩ := own_shape hown.1
    cases hv
    obtain rfl : n = 0 := by omega
    have hnil : xs = [] := by
      have := hown.1.1
      exact List.eq_nil_of_length_eq_zero (by omega)
    subst hnil
    have fin : ∀ v' w', w'.ownsRow w.heap.size e size v' (0 + m) ([] ++ news) → w.grownBy w' none → K (a.put o.dst v') w' := by
      intro v' w' ho' hg
      obtain ⟨A', C', rfl, _⟩ := own_shape ho'
      exact h A' C' w' ⟨own_base ho' (Nat.le_trans hbase hbB), Or.inl (own_base ho' hbB)⟩ (below_grown hg hbB (fun k hk => by cases hk))
    cases A with
    | some b =>
      obtain ⟨v', w', hrun, r1, r2⟩ := run_append_arg_grows (P := P) w t o.type e i z size bytes ht hi hz hsize hby hzs hsz b 0 0 [] (by simp) (fun j u hu => by simp at hu) ad m c news hl hnews (by omega) h63 hbytes
      unfold Oper.wp
      simp [execOp, ho, resolve, invoke, builtin, hs, hx, hrun, Result.andThen]
      exact fin v' w' r1 r2
    | none =>
      obtain ⟨v', w', hrun, r1, r2, _⟩ := run_append_own (P := P) w w.heap.size t o.type e i z size bytes ht hi hz hsize hby hzs hsz (.slice none 0 0) 0 [] (World.ownsRow_nil w _ e size) ad m c news hl hnews h1 h63 hbytes (Nat.le_refl _)
      unfold Oper.wp
      simp [execOp, ho, resolve, invoke, builtin, hs, hx, hrun, Result.andThen]
      exact fin v' w' r1 r2
/-- At a step of a region that draws its order. -/
theorem step_app_out {P : Program} {w : World} {ops : Array Oper} {o : Oper} {a : Act} {K : Act → World → Prop} {Q : Exit → Act → World → Prop} {E : Prop} (hgd : o.guard = none) (s x : Operand) (t : TypeId)
    (ho : o.op = .call { callee := .builtin .append, args := #[s, x], argTypes := #[t, t] })
    (lo B : Nat) (e : TypeId) {i : TypeInfo} {z : Value} {size bytes : Nat} (ht : P.underlying t = some (.slice e)) (hi : P.info? e = some i) (hz : i.zero = some z)
    (hsize : i.size = size) (hby : i.bytes = bytes) (hzs : z.cells.size = size) (hsz : 0 < size)
    (A : Option Addr) (n C : Nat) (xs : List Value) (hs : a.eval s = .slice A n C) (hown : OutRow lo B e size w A n C xs)
    (ad : Addr) (m c : Nat) (news : List Value) (hx : a.eval x = .slice (some ad) m c) (hl : news.length = m * size) (hnews : ∀ (j : Nat) (u : Value), news[j]? = some u → w.cell? (ad.add j) = some u)
    (h1 : ∀ u ∈ news, u.oneCell' = true) (hm : 0 < m)
    (h63 : n + m ≤ maxLen) (hbytes : (n + m) * bytes ≤ 140737488355328) (hbase : lo ≤ B) (hbB : B ≤ w.heap.size)
    (h : ∀ (A' : Option Addr) (C' : Nat) (w' : World), OutRow lo B e size w' A' (n + m) C' (xs ++ news) → Below B w w' → K (a.put o.dst (.slice A' (n + m) C')) w') :
    if Region.wanted o (yielded ops a.tmps) = true then Oper.wp P o a w K Q else E := by
  have hw : Region.wanted o (yielded ops a.tmps) = true := by simp [Region.wanted, hgd]
  rw [if_pos hw]
  exact wp_app_out s x t ho lo B e ht hi hz hsize hby hzs hsz A n C xs hs hown ad m c news hx hl hnews h1 hm h63 hbytes hbase hbB h
theorem cell_lt {w w' : World} {B : Nat} (hb : Below B w w') {b o : Nat} {v : Value} (h : w.cell? ⟨b, o, none⟩ = some v) (hlt : b < B) : w'.cell? ⟨b, o, none⟩ = some v := by rw [hb.cell (p := ⟨b, o, none⟩) hlt]; exact h
theorem own_keep' {w w' : World} {b : Nat} {e : TypeId} {sz : Nat} {v : Value} {n : Nat} {xs : List Value} (h : w.ownsRow b e sz v n xs) (hd : ∀ g, v.ownBlock = some g → w'.heap[g]? = w.heap[g]?) : w'.ownsRow b e sz v n xs := by
  refine ⟨h.1, ?_⟩
  rcases h.2 with hn | ⟨g, cap, cur, hv, hgb, hh, r⟩
  · exact Or.inl hn
  · exact Or.inr ⟨g, cap, cur, hv, hgb, by rw [hd g (by rw [hv]; rfl)]; exact hh, r⟩
theorem OutRow.set {lo B : Nat} {e : TypeId} {sz : Nat} {w : World} {a : Option Addr} {n cap : Nat} {xs : List Value} (h : OutRow lo B e sz w a n cap xs) (hn : 0 < n) (b o : Nat) (v : Value) (hb : b < B) (hlo : lo ≤ B) : OutRow lo B e sz (w.setCell ⟨b, o, none⟩ v) a n cap xs := by
  obtain ⟨_, _, hv, hnc, _⟩ := own_shape h.1
  cases hv
  have hB := h.2.resolve_right (by omega)
  have hB2 : (w.setCell ⟨b, o, none⟩ v).ownsRow B e sz (.slice a n cap) n xs := own_keep' hB (fun g hg => Below.heap_setCell _ _ _ _ (by have := (World.ownsRow.lt hB g hg).1; show g ≠ b; omega))
  exact ⟨own_base hB2 hlo, Or.inl hB2⟩
end Go.Proofs.YthffmjeodoinlaaDoor

/- append onto an output row that began as an empty literal: a row of capacity 0 need not be owned from the base on. Nothing of the program. -/
import Derived.Test.YtoodlmhnemamhaaApp
import Derived.ArgAppend
namespace Go.Proofs.Ytoodlmhnemamhaa
open Go.RowKit
/-- The slice a n cap is the call's own from lo on; and from B on, or it has no capacity. -/
def OutRow (lo B : Nat) (e : TypeId) (sz : Nat) (w : World) (a : Option Addr) (n cap : Nat) (xs : List Value) : Prop := w.ownsRow lo e sz (.slice a n cap) n xs ∧ (w.ownsRow B e sz (.slice a n cap) n xs ∨ cap = 0)
theorem OutRow.below {lo B : Nat} {e : TypeId} {sz : Nat} {w w' : World} {a : Option Addr} {n cap : Nat} {xs : List Value} (h : OutRow lo B e sz w a n cap xs) (hb : Below w.heap.size w w') : OutRow lo B e sz w' a n cap xs :=
  ⟨own_below h.1 hb (Nat.le_refl _), h.2.imp (fun k => own_below k hb (Nat.le_refl _)) id⟩
theorem OutRow.alloc {lo B : Nat} {e : TypeId} {sz : Nat} {w : World} {a : Option Addr} {n cap : Nat} {xs : List Value} (h : OutRow lo B e sz w a n cap xs) (o : Obj) : OutRow lo B e sz (w.alloc o) a n cap xs :=
  h.below ((Below.refl _ _).alloc (Nat.le_refl _) _)
theorem OutRow.lit (w : World) (e : TypeId) (sz B : Nat) : OutRow w.heap.size B e sz (w.alloc (.cells #[] e)) (some ⟨w.heap.size, 0, none⟩) 0 0 [] :=
  ⟨World.ownsRow_lit w #[] 0 (Nat.le_refl _) (by unfold maxLen; omega) (by simp), Or.inr rfl⟩
theorem OutRow.nil (w : World) (e : TypeId) (sz lo B : Nat) : OutRow lo B e sz w none 0 0 [] := ⟨World.ownsRow_nil _ _ _ _, Or.inr rfl⟩
theorem app_out {P : Program} {w : World} {ops : Array Oper} {rest : List Oper} {o : Oper} {a : Act} {Q : Exit → Act → World → Prop} (hgd : o.guard = none) (s x : Operand) (t : TypeId)
    (ho : o.op = .call { callee := .builtin .append, args := #[s, x], argTypes := #[t, t] })
    (lo B : Nat) (e : TypeId) {i : TypeInfo} {z : Value} {size bytes : Nat} (ht : P.underlying t = some (.slice e)) (hi : P.info? e = some i) (hz : i.zero = some z)
    (hsize : i.size = size) (hby : i.bytes = bytes) (hzs : z.cells.size = size) (hsz : 0 < size)
    (A : Option Addr) (n C : Nat) (xs : List Value) (hs : a.eval s = .slice A n C) (hown : OutRow lo B e size w A n C xs)
    (ad : Addr) (m c : Nat) (news : List Value) (hx : a.eval x = .slice (some ad) m c) (hl : news.length = m * size) (hnews : ∀ (j : Nat) (u : Value), news[j]? = some u → w.cell? (ad.add j) = some u)
    (h1 : ∀ u ∈ news, u.oneCell' = true) (hm : 0 < m)
    (h63 : n + m ≤ maxLen) (hbytes : (n + m) * bytes ≤ 140737488355328) (hbase : lo ≤ B) (hbB : B ≤ w.heap.size)
    (h : ∀ (A' : Option Addr) (C' : Nat) (w' : World), OutRow lo B e size w' A' (n + m) C' (xs ++ news) → Below B w w' → wpList P ops Q rest (a.put o.dst (.slice A' (n + m) C')) w') : wpList P ops Q (o :: rest) a w := by
  rcases hown.2 with hB | hC
  · refine app_any hgd s x t ho B e ht hi hz hsize hby hzs hsz A n C xs hs hB (some ad) m c news hx hl (fun ad' had => by cases had; exact hnews) (fun hh => by cases hh) h1 h63 hbytes hbB ?_
    intro A' C' w' ho' hb'
    exact h A' C' w' ⟨own_base ho' hbase, Or.inl ho'⟩ hb'
  · subst hC
    obtain ⟨A2, cap2, hv, hn, _⟩ := own_shape hown.1
    cases hv
    obtain rfl : n = 0 := by omega
    have hnil : xs = [] := by
      have := hown.1.1
      exact List.eq_nil_of_length_eq_zero (by omega)
    subst hnil
    refine wpList_append_grows w hgd s x t ho e i z size bytes ht hi hz hsize hby hzs hsz A 0 0 [] hs (fun _ => ⟨rfl, rfl⟩) (by simp) (fun b _ j u hu => by simp at hu) ad m c news hx hl hnews h1 (by omega) h63 hbytes ?_
    intro v' w' ho' hg
    obtain ⟨A', C', rfl, _⟩ := own_shape ho'
    refine h A' C' w' ⟨own_base ho' (Nat.le_trans hbase hbB), Or.inl (own_base ho' hbB)⟩ (below_grown hg hbB (fun k hk => by cases hk))
end Go.Proofs.Ytoodlmhnemamhaa

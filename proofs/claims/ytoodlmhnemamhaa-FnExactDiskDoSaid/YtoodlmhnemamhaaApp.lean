/- append onto a row of the call's own, whatever the source (nil, empty, cut): a law for the walk whose result is a slice written out. Nothing of the program. -/
import Derived.Test.YtoodlmhnemamhaaOwn
import Derived.Laws.AppendOwnNone
namespace Go.Proofs.Ytoodlmhnemamhaa
open Go.RowKit

theorem app_any {P : Program} {w : World} {ops : Array Oper} {rest : List Oper} {o : Oper} {a : Act} {Q : Exit → Act → World → Prop} (hgd : o.guard = none) (s x : Operand) (t : TypeId)
    (ho : o.op = .call { callee := .builtin .append, args := #[s, x], argTypes := #[t, t] })
    (base : Nat) (e : TypeId) {i : TypeInfo} {z : Value} {size bytes : Nat} (ht : P.underlying t = some (.slice e)) (hi : P.info? e = some i) (hz : i.zero = some z)
    (hsize : i.size = size) (hby : i.bytes = bytes) (hzs : z.cells.size = size) (hsz : 0 < size)
    (A : Option Addr) (n C : Nat) (xs : List Value) (hs : a.eval s = .slice A n C) (hown : w.ownsRow base e size (.slice A n C) n xs)
    (ad : Option Addr) (m c : Nat) (news : List Value) (hx : a.eval x = .slice ad m c) (hl : news.length = m * size) (hnews : ∀ ad', ad = some ad' → ∀ (j : Nat) (u : Value), news[j]? = some u → w.cell? (ad'.add j) = some u)
    (hnone : ad = none → m = 0 ∧ c = 0) (h1 : ∀ u ∈ news, u.oneCell' = true)
    (h63 : n + m ≤ maxLen) (hbytes : (n + m) * bytes ≤ 140737488355328) (hbase : base ≤ w.heap.size)
    (h : ∀ (A' : Option Addr) (C' : Nat) (w' : World), w'.ownsRow base e size (.slice A' (n + m) C') (n + m) (xs ++ news) → Below base w w' → wpList P ops Q rest (a.put o.dst (.slice A' (n + m) C')) w') : wpList P ops Q (o :: rest) a w := by
  cases ad with
  | none =>
    obtain ⟨rfl, rfl⟩ := hnone rfl
    have hn : news = [] := List.eq_nil_of_length_eq_zero (by simpa using hl)
    subst hn
    refine wpList_append_own_none hgd s x t ho base e i size ht hi _ n xs hs hown hx ?_
    exact h A C w (by simpa using hown) (Below.refl _ _)
  | some ad =>
    refine wpList_append_own w hgd s x t ho base e i z size bytes ht hi hz hsize hby hzs hsz _ n xs hs hown ad m c news hx hl (hnews ad rfl) h1 h63 hbytes hbase ?_
    intro v' w' ho' hg _
    obtain ⟨A', C', rfl, _⟩ := own_shape ho'
    exact h A' C' w' ho' (below_grown hg hbase (fun k hk => (World.ownsRow.lt hown k hk).1))

/-- What app_any asks of a source that can be read. -/
theorem Rd.news {k : IntKind} {w : World} {a : Option Addr} {n cap : Nat} {zs : List Int} (h : Rd (encI k) 1 w a n cap zs) : ∀ ad', a = some ad' → ∀ (j : Nat) (u : Value), (zs.map (Value.int k))[j]? = some u → w.cell? (ad'.add j) = some u := by
  intro ad had j u hu
  have hj : j < zs.length := by have := (List.getElem?_eq_some_iff.1 hu).1; simpa using this
  obtain ⟨b, off, he, _, hc⟩ := h.ints (by have := h.len; omega)
  rw [he] at had
  cases had
  rw [Addr.add_lit, hc j (by have := h.len; omega), ← hu, List.getElem?_map]
  simp [List.getD, hj]
theorem Rd.none {α : Type} {enc : α → List Value} {sz : Nat} {w : World} {a : Option Addr} {n cap : Nat} {xs : List α} (h : Rd enc sz w a n cap xs) : a = none → n = 0 ∧ cap = 0 := fun ha => by
  have h1 := h.nil ha; have h2 := h.le; omega
theorem one_news (w : World) (v : Value) (e : TypeId) : ∀ ad', some (⟨w.heap.size, 0, none⟩ : Addr) = some ad' → ∀ (j : Nat) (u : Value), [v][j]? = some u → (w.alloc (.cells #[v] e)).cell? (ad'.add j) = some u := by
  intro ad had j u hu
  cases had
  exact cell_one_new w v e j u hu
theorem int_one (k : IntKind) (x : Int) : ∀ u ∈ [Value.int k x], u.oneCell' = true := by intro u hu; simp at hu; subst hu; rfl
end Go.Proofs.Ytoodlmhnemamhaa

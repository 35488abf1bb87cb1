/- What a variable of the library holds stays as it is where only new memory is made. Nothing of the program. -/
import Derived.Test.YtgkgbpgnbnledaaDoorLib
import Derived.Lib.LaidTab
import Derived.Lib.ItoaNum
namespace Go.Proofs.YtgkgbpgnbnledaaDoor
open Go.RowKit
theorem var_later {P : Program} {w w' : World} {n : String} {cs : Array Value} {B : Nat} (hb : Below B w w') (hB : w.heap.size ≤ B) (h : w.var? P n = some cs) : w'.var? P n = some cs := by
  unfold World.var? at h ⊢
  cases hg : P.globalNamed n with
  | none => simp [hg] at h
  | some g =>
    simp only [hg, Option.bind_some] at h ⊢
    have hlt : g < w.heap.size := by
      rcases Nat.lt_or_ge g w.heap.size with h' | h'
      · exact h'
      · simp [Array.getElem?_eq_none h'] at h
    rw [hb.block g (Nat.lt_of_lt_of_le hlt hB)]
    exact h
/-- The table of powers of ten. -/
def Pow (P : Program) (w : World) : Prop := Lib.TabIs P w "internal/strconv.uint64pow10" .u64 Lib.pow10Tab
theorem Pow.later {P : Program} {w w' : World} (h : Pow P w) {B : Nat} (hb : Below B w w') (hB : w.heap.size ≤ B) : Pow P w' := var_later hb hB h
theorem Pow.drew {P : Program} {w : World} (h : Pow P w) : Pow P w.drew := h
/-- The two errors that strconv hands on. -/
def Errs (P : Program) (w : World) : Prop := (∃ tp p, w.var? P "strconv.ErrSyntax" = some #[.iface tp p]) ∧ ∃ tp p, w.var? P "strconv.ErrRange" = some #[.iface tp p]
theorem Errs.later {P : Program} {w w' : World} (h : Errs P w) {B : Nat} (hb : Below B w w') (hB : w.heap.size ≤ B) : Errs P w' := by
  obtain ⟨⟨t1, p1, h1⟩, t2, p2, h2⟩ := h
  exact ⟨⟨t1, p1, var_later hb hB h1⟩, t2, p2, var_later hb hB h2⟩
/-- A cell that holds some int. -/
def SomeInt (g : Nat) (w : World) : Prop := ∃ m, w.cell? ⟨g, 0, none⟩ = some (.int .i64 m)
theorem SomeInt.later {g : Nat} {w w' : World} (h : SomeInt g w) {B : Nat} (hb : Below B w w') (hB : w.heap.size ≤ B) : SomeInt g w' := by
  obtain ⟨m, hm⟩ := h
  exact ⟨m, cell_later (hb.mono hB) hm⟩
end Go.Proofs.YtgkgbpgnbnledaaDoor

/- The facts on the listed variables that the walks want, out of a row's condition. -/
import Derived.Test.YtgkgbpgnbnledaaDoorDoor
import Derived.Test.YtgkgbpgnbnledaaDoorShelf
namespace Go.Proofs.YtgkgbpgnbnledaaDoor
open Go.RowKit
theorem pow_head {W : World} {r : List (String × DataW Unit)} (h : laidMet Tryd.prog (("internal/strconv.uint64pow10", Rows.laid_internal_strconv_uint64pow10) :: r) W) : Pow Tryd.prog W :=
  Lib.tabIs_of_head (show Tryd.prog.globalNamed "internal/strconv.uint64pow10" = some 2 by kernel_rfl) (show (Tryd.prog.globals[2]?).map (·.type) = some 124 by kernel_rfl) Tryd.underlying124 Tryd.underlying106 (by kernel_rfl) (by kernel_rfl) h
theorem row_err (u : TypeId) (h : Tryd.prog.typeName? 3 u = some "*errors.errorString") : u = 131 :=
  typeName_ptr_named (nm := "errors.errorString") (by rw [show "*" ++ "errors.errorString" = "*errors.errorString" by decide]; kernel_rfl) (by kernel_rfl) (by decide) u (by rw [show "*" ++ "errors.errorString" = "*errors.errorString" by decide]; exact h)
theorem range_head {W : World} {r : List (String × DataW Unit)} (h : laidMet Tryd.prog (("strconv.ErrRange", Rows.laid_strconv_ErrRange) :: r) W) : ∃ tp p, W.var? Tryd.prog "strconv.ErrRange" = some #[.iface tp p] := by
  obtain ⟨a0, sa, hva, _, _, _⟩ := laid_sentinel h (show Tryd.prog.globalNamed "strconv.ErrRange" = some 1 by kernel_rfl) (show (Tryd.prog.globals[1]?).map (·.type) = some 67 by kernel_rfl) Tryd.underlying67 row_err Tryd.underlying131 Tryd.underlying133 rfl rfl Tryd.underlying9 (by kernel_rfl) (by kernel_rfl)
  exact ⟨_, _, hva⟩
theorem syntax_head {W : World} {r : List (String × DataW Unit)} (h : laidMet Tryd.prog (("strconv.ErrSyntax", Rows.laid_strconv_ErrSyntax) :: r) W) : ∃ tp p, W.var? Tryd.prog "strconv.ErrSyntax" = some #[.iface tp p] := by
  obtain ⟨a0, sa, hva, _, _, _⟩ := laid_sentinel h (show Tryd.prog.globalNamed "strconv.ErrSyntax" = some 0 by kernel_rfl) (show (Tryd.prog.globals[0]?).map (·.type) = some 67 by kernel_rfl) Tryd.underlying67 row_err Tryd.underlying131 Tryd.underlying133 rfl rfl Tryd.underlying9 (by kernel_rfl) (by kernel_rfl)
  exact ⟨_, _, hva⟩
theorem someInt_of {W : World} (h : W.ShapedOpen Tryd.prog) : SomeInt 3 W := Tryd.laysM146.s1_3 W h
end Go.Proofs.YtgkgbpgnbnledaaDoor

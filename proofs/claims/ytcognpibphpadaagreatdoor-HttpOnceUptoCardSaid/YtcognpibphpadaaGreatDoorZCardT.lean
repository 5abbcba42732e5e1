/- For the cards: the table of powers of ten; a card's frame. -/
import Derived.Test.YtcognpibphpadaaGreatDoorZCardB
import Derived.Test.YtcognpibphpadaaGreatDoorZWrit
set_option linter.unusedVariables false
set_option linter.unusedSimpArgs false
namespace Go.Proofs.YtcognpibphpadaaGreatDoor
open Go.ChangeShapes Go.WideShapes Go.ChangeAt Go.RowKit

theorem gTabT : (Tryz.prog.globals[2]?).map (·.type) = some 203 := by kernel_rfl
theorem cells203 : Tryz.prog.cellsOf 203 = 20 := by kernel_rfl
theorem cells176 : Tryz.prog.cellsOf 176 = 1 := by kernel_rfl
theorem tab_of {W : World} {laid : List (String × DataW Unit)} (h : laidMet Tryz.prog laid W) (m : ("internal/strconv.uint64pow10", Rows.laid_internal_strconv_uint64pow10) ∈ laid) : Tab10 W := by
  obtain ⟨ps, hl, _⟩ := h
  obtain ⟨g, t, cs, fuel, p, h1, h2, h3, h4⟩ := laid_mem hl m
  obtain rfl := Option.some.inj (tab_named.symm.trans h1)
  obtain rfl := Option.some.inj (gTabT.symm.trans h2)
  have hc := Lib.cells_of_tab (zs := Lib.pow10Tab) (k := .u64) Tryz.underlying203 Tryz.underlying176 cells176 cells203 h4
  refine ⟨?_⟩
  unfold Lib.TabIs
  rw [h3, ← hc]
end Go.Proofs.YtcognpibphpadaaGreatDoor

/- For the cards: the table of math/bits. -/
import Derived.Test.YtcognpibphpadaaGreatDoorZCardT
import Derived.Test.YtcognpibphpadaaGreatDoorZHex
set_option linter.unusedVariables false
set_option linter.unusedSimpArgs false
namespace Go.Proofs.YtcognpibphpadaaGreatDoor
open Go.ChangeShapes Go.WideShapes Go.ChangeAt Go.RowKit

theorem gBitN : Tryz.prog.globalNamed "math/bits.deBruijn64tab" = some 9 := by kernel_rfl
theorem gBitT : (Tryz.prog.globals[9]?).map (·.type) = some 228 := by kernel_rfl
theorem cells228 : Tryz.prog.cellsOf 228 = 64 := by kernel_rfl
/-- The numbers of a row of numbers, as read. -/
def zsOf : DataW Unit → List Int
  | .agg l => l.map fun
    | .lit (.int _ n) => n
    | _ => 0
  | _ => []
theorem bitsData : (Rows.laid_math_bits_deBruijn64tab : DataW Unit) = Lib.tabData .u8 (zsOf Rows.laid_math_bits_deBruijn64tab) := by rfl
theorem bits15 : (zsOf Rows.laid_math_bits_deBruijn64tab)[15]? = some 4 := by rfl
theorem tabd_of {W : World} {laid : List (String × DataW Unit)} (h : laidMet Tryz.prog laid W) (m : ("math/bits.deBruijn64tab", Rows.laid_math_bits_deBruijn64tab) ∈ laid) : TabD W := by
  obtain ⟨ps, hl, _⟩ := h
  obtain ⟨g, t, cs, fuel, p, h1, h2, h3, h4⟩ := laid_mem hl m
  obtain rfl := Option.some.inj (gBitN.symm.trans h1)
  obtain rfl := Option.some.inj (gBitT.symm.trans h2)
  rw [bitsData] at h4
  have hc := Lib.cells_of_tab (k := .u8) Tryz.underlying228 Tryz.underlying5 cells5 cells228 h4
  have e : ∀ i : Nat, cs[i]? = cs.toList[i]? := fun i => by simp
  refine ⟨?_⟩
  rw [World.var?_cell gBitN h3 15, e, hc, List.getElem?_map, bits15]
  rfl
end Go.Proofs.YtcognpibphpadaaGreatDoor

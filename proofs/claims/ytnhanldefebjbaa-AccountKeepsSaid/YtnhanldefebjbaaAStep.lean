/-
  A step of the account's laws as it lies in memory. No condition.
-/
import Derived.Test.YtnhanldefebjbaaOpen
namespace Go.Proofs.Ytnhanldefebjbaa
open Go Go.RowKit

structure AStep where
  kind : Int
  n : Int
def AStep.cells (s : AStep) : List Value := [i64 s.kind, i64 s.n]
def AStep.good (s : AStep) : Prop := (-9223372036854775808 ≤ s.kind ∧ s.kind ≤ 9223372036854775807) ∧ (-9223372036854775808 ≤ s.n ∧ s.n ≤ 9223372036854775807)

theorem AStep.parse (vs : List Value) (h : AllOK [.int .i64, .int .i64] vs) : ∃ s, AStep.cells s = vs ∧ AStep.good s := by
  obtain ⟨a, r, rfl, ha, h⟩ := h.i64
  obtain ⟨b, r, rfl, hb, h⟩ := h.i64
  obtain rfl := h.none
  exact ⟨⟨a, b⟩, rfl, ha, hb⟩

theorem flat_astep : flat Try.prog 5 31 = some [.int .i64, .int .i64] := by kernel_rfl
theorem cells_astep : Try.prog.cellsOf 31 = 2 := by kernel_rfl

end Go.Proofs.Ytnhanldefebjbaa

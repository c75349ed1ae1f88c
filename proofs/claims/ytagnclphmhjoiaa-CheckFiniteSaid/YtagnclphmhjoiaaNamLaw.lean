/-
  Declarations as arguments of a law (chapter 11). No condition.
-/
import Derived.Test.YtagnclphmhjoiaaOpenN
import Derived.Test.YtagnclphmhjoiaaNamRef
namespace Go.Proofs.Ytagnclphmhjoiaa
open Go Go.RowKit Go.ChangeShapes Go.WideShapes Go.ChangeAt

theorem Dc.parse {Sl : TypeId → Value → Prop} {e1 e2 : TypeId} (vs : List Value) (h : AllOKN Sl [.int .i64, .string, .slice e1, .slice e2, .int .i64] vs) : ∃ s, Dc.cells s = vs ∧ s.name.size ≤ maxLen := by
  obtain ⟨a, r, rfl, ha, h⟩ := h.i64
  obtain ⟨b, r, rfl, hb, h⟩ := h.str
  obtain ⟨fa, fn, fc, r, rfl, -, h⟩ := h.sl
  obtain ⟨ma, mn, mc, r, rfl, -, h⟩ := h.sl
  obtain ⟨c, r, rfl, hc, h⟩ := h.i64
  obtain rfl := h.none
  exact ⟨⟨a, b, fa, fn, fc, ma, mn, mc, c⟩, rfl, hb⟩

theorem flat_decl : flatN Try.prog 5 34 = some [.int .i64, .string, .slice 60, .slice 42, .int .i64] := by kernel_rfl
theorem cells_decl : Try.prog.cellsOf 34 = 5 := by kernel_rfl

theorem darg_of {W : World} {ao : Option Addr} {l : List Dc} (h : l = [] ∨ ∃ b off, ao = some ⟨b, off, none⟩ ∧ RowsN W b off 5 Dc.cells l) : DArg W ao l := by
  cases l with
  | nil => exact .inl rfl
  | cons x r =>
    rcases h with h | ⟨b, off, h1, h2⟩
    · cases h
    · exact .inr ⟨b, off, h1, World.block_lt_of_cell? W _ (h2 0 x rfl 0 (by decide)), h2⟩
end Go.Proofs.Ytagnclphmhjoiaa

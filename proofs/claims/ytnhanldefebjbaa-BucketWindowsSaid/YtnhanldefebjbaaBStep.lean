/-
  The steps of chapter 23's laws: how they read. No condition.
-/
import Derived.Test.YtnhanldefebjbaaOpen
namespace Go.Proofs.Ytnhanldefebjbaa
open Go Go.RowKit Go.ChangeShapes Go.WideShapes Go.ChangeAt

structure BStep where
  kind : Int
  n : Int
  m : Int
def BStep.cells (s : BStep) : List Value := [i64 s.kind, i64 s.n, i64 s.m]
def BStep.good (s : BStep) : Prop := (-9223372036854775808 ≤ s.kind ∧ s.kind ≤ 9223372036854775807) ∧ (-9223372036854775808 ≤ s.n ∧ s.n ≤ 9223372036854775807) ∧ (-9223372036854775808 ≤ s.m ∧ s.m ≤ 9223372036854775807)

theorem BStep.parse (vs : List Value) (h : AllOK [.int .i64, .int .i64, .int .i64] vs) : ∃ s, BStep.cells s = vs ∧ BStep.good s := by
  obtain ⟨a, r, rfl, ha, h⟩ := h.i64
  obtain ⟨b, r, rfl, hb, h⟩ := h.i64
  obtain ⟨c, r, rfl, hc, h⟩ := h.i64
  obtain rfl := h.none
  exact ⟨⟨a, b, c⟩, rfl, ha, hb, hc⟩

theorem flat_bstep : flat Try.prog 5 49 = some [.int .i64, .int .i64, .int .i64] := by kernel_rfl
theorem cells_bstep : Try.prog.cellsOf 49 = 3 := by kernel_rfl

/-- the cells of the k-th row, in whatever later world -/
theorem brow {w wr : World} {b off : Nat} {l : List BStep} (hr : RowsAt w b off 3 BStep.cells l) (hu : Upd [] w wr) (hb : b < w.heap.size) {k : Nat} (hk : k < l.length) :
    wr.cell? ⟨b, off + k * 3, none⟩ = some (i64 (l[k].kind)) ∧ wr.cell? ⟨b, off + k * 3 + 1, none⟩ = some (i64 (l[k].n)) ∧ wr.cell? ⟨b, off + k * 3 + 2, none⟩ = some (i64 (l[k].m)) := by
  have h0 := hr k l[k] (List.getElem?_eq_getElem hk)
  exact ⟨(hu.below.cell (p := ⟨b, off + k * 3, none⟩) hb).trans (h0 0 (by omega)), (hu.below.cell (p := ⟨b, off + k * 3 + 1, none⟩) hb).trans (h0 1 (by omega)), (hu.below.cell (p := ⟨b, off + k * 3 + 2, none⟩) hb).trans (h0 2 (by omega))⟩

end Go.Proofs.Ytnhanldefebjbaa

/-
  Configurations and steps of chapter 39's laws: how they read. No condition.
-/
import Derived.Test.YtnhanldefebjbaaOpen
import Derived.Test.YtnhanldefebjbaaGateAdmit
namespace Go.Proofs.Ytnhanldefebjbaa
open Go Go.RowKit Go.ChangeShapes Go.WideShapes Go.ChangeAt

def inI (n : Int) : Prop := -9223372036854775808 ≤ n ∧ n ≤ 9223372036854775807
theorem Cf.parse (vs : List Value) (h : AllOK [.int .i64, .int .i64, .int .i64, .int .i64, .int .i64, .int .i64, .int .i64, .int .i64, .int .i64] vs) : ∃ c : Cf, c.cells.toList = vs := by
  obtain ⟨a1, r, rfl, -, h⟩ := h.i64
  obtain ⟨a2, r, rfl, -, h⟩ := h.i64
  obtain ⟨a3, r, rfl, -, h⟩ := h.i64
  obtain ⟨a4, r, rfl, -, h⟩ := h.i64
  obtain ⟨a5, r, rfl, -, h⟩ := h.i64
  obtain ⟨a6, r, rfl, -, h⟩ := h.i64
  obtain ⟨a7, r, rfl, -, h⟩ := h.i64
  obtain ⟨a8, r, rfl, -, h⟩ := h.i64
  obtain ⟨a9, r, rfl, -, h⟩ := h.i64
  obtain rfl := h.none
  exact ⟨⟨a1, a2, a3, a4, a5, a6, a7, a8, a9⟩, rfl⟩
theorem flat_conf : flat Try.prog 5 60 = some [.int .i64, .int .i64, .int .i64, .int .i64, .int .i64, .int .i64, .int .i64, .int .i64, .int .i64] := by kernel_rfl

/-- a step: what is done, a kind, a number, a configuration -/
structure GStp where
  act : Int
  kind : Int
  n : Int
  c : Cf
def GStp.cells (s : GStp) : List Value := i64 s.act :: i64 s.kind :: i64 s.n :: s.c.cells.toList
def GStp.good (s : GStp) : Prop := inI s.n
theorem GStp.parse (vs : List Value) (h : AllOK [.int .i64, .int .i64, .int .i64, .int .i64, .int .i64, .int .i64, .int .i64, .int .i64, .int .i64, .int .i64, .int .i64, .int .i64] vs) : ∃ s : GStp, s.cells = vs ∧ s.good := by
  obtain ⟨a1, r, rfl, -, h⟩ := h.i64
  obtain ⟨a2, r, rfl, -, h⟩ := h.i64
  obtain ⟨a3, r, rfl, h3, h⟩ := h.i64
  obtain ⟨c, rfl⟩ := Cf.parse _ h
  exact ⟨⟨a1, a2, a3, c⟩, rfl, h3⟩
theorem flat_gstep : flat Try.prog 6 66 = some [.int .i64, .int .i64, .int .i64, .int .i64, .int .i64, .int .i64, .int .i64, .int .i64, .int .i64, .int .i64, .int .i64, .int .i64] := by kernel_rfl
theorem cells_gstep : Try.prog.cellsOf 66 = 12 := by kernel_rfl

theorem gsrow {w wr : World} {b off : Nat} {l : List GStp} {S : List Nat} (hr : RowsAt w b off 12 GStp.cells l) (hu : Upd S w wr) (hb : b < w.heap.size) (hS : b ∉ S) {k : Nat} (hk : k < l.length) (j : Nat) (hj : j < 12) :
    wr.cell? ⟨b, off + k * 12 + j, none⟩ = (l[k].cells)[j]? :=
  (World.cell?_of_block (a := ⟨b, off + k * 12 + j, none⟩) (hu.block b hb hS)).trans (hr k l[k] (List.getElem?_eq_getElem hk) j hj)
end Go.Proofs.Ytnhanldefebjbaa

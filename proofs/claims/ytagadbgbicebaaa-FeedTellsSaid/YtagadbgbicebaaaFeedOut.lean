/-
  The frames that bytes tell, in a row that grows: what chapter 6's laws keep. No condition.
-/
import Derived.Test.YtagadbgbicebaaaFeedTxt
namespace Go.Proofs.Ytagadbgbicebaaa
open Go Go.RowKit Go.ChangeShapes Go.WideShapes Go.ChangeAt

/-- the frames that all the bytes A tell, in a row -/
def OutAt (w : World) (base : Nat) (v : Value) (A : List UInt8) : Prop := ∃ ao cap, v = .slice ao (allFr A).out.length cap ∧ Sub w base 23 3 v (allFr A).out.length (fmCells (allFr A).out)

theorem FeedAt.keep {S : List Nat} {w w' : World} {b : Nat} {A : List UInt8} (h : FeedAt w b A) (hu : Upd S w w') (hb : b ∉ S) : FeedAt w' b A := hu.keep h hb
theorem OutAt.keep {S : List Nat} {w w' : World} {base : Nat} {v : Value} {A : List UInt8} (h : OutAt w base v A) (hu : Upd S w w') (hb : ∀ g ∈ blkL v, g ∉ S) : OutAt w' base v A := by
  obtain ⟨ao, cap, rfl, hs⟩ := h
  exact ⟨ao, cap, rfl, hs.upd hu hb⟩
theorem OutAt.ne {w : World} {base b : Nat} {v : Value} {A B : List UInt8} (h : OutAt w base v A) (hf : FeedAt w b B) : b ∉ blkL v := fun hm => by
  obtain ⟨ao, cap, rfl, hs⟩ := h
  obtain ⟨cs, hc⟩ := hs.ty _ hm
  unfold FeedAt at hf
  rw [hf] at hc; injection hc with hc; injection hc with _ hc; cases hc

theorem fm_one (l : List Fm) : ∀ u ∈ fmCells l, u.oneCell' = true := by
  intro u hu
  unfold fmCells at hu
  obtain ⟨x, _, hx⟩ := List.mem_flatMap.1 hu
  simp [Fm.cells] at hx
  rcases hx with rfl | rfl | rfl <;> rfl

theorem txt_cell {w wr : World} {b off : Nat} {l : List ByteArray} (h : TxtAt w b off l) (hu : Upd [] w wr) (hb : b < w.heap.size) {k : Nat} (hk : k < l.length) : wr.cell? ⟨b, off + k, none⟩ = some (.string l[k]) :=
  (hu.below.cell (p := ⟨b, off + k, none⟩) hb).trans (h k _ (List.getElem?_eq_getElem hk))

end Go.Proofs.Ytagadbgbicebaaa

/-
  What a call may have changed, told by a set of blocks. No condition.
-/
import Derived.Test.YtagadbgbicebaaaSub
namespace Go.Proofs.Ytagadbgbicebaaa
open Go Go.RowKit

/-- of the blocks that were there only those of Z may have changed -/
def UpdP (Z : Nat → Prop) (w w' : World) : Prop := ∃ S, Upd S w w' ∧ ∀ x ∈ S, Z x ∨ w.heap.size ≤ x
theorem UpdP.refl (Z : Nat → Prop) (w : World) : UpdP Z w w := ⟨[], Upd.refl _ _, fun _ h => (by cases h)⟩
theorem UpdP.size {Z : Nat → Prop} {w w' : World} (h : UpdP Z w w') : w.heap.size ≤ w'.heap.size := by obtain ⟨S, h, -⟩ := h; exact h.size
theorem UpdP.keep {Z : Nat → Prop} {w w' : World} (h : UpdP Z w w') {b : Nat} {o : Obj} (hb : w.heap[b]? = some o) (hn : ¬ Z b) : w'.heap[b]? = some o := by
  obtain ⟨S, h, hs⟩ := h
  refine h.keep hb fun hm => ?_
  rcases hs b hm with q | q
  · exact hn q
  · have := lt_of_heap hb; omega
theorem UpdP.trans {Z Z' : Nat → Prop} {a b c : World} (h : UpdP Z a b) (k : UpdP Z' b c) (hz : ∀ x, Z' x → Z x ∨ a.heap.size ≤ x) : UpdP Z a c := by
  obtain ⟨S, h, hs⟩ := h
  obtain ⟨S', k, ks⟩ := k
  refine ⟨S ++ S', (h.mono (by intro x hx; simp [hx])).trans' (k.mono (by intro x hx; simp [hx])), fun x hx => ?_⟩
  rcases List.mem_append.1 hx with q | q
  · exact hs x q
  · rcases ks x q with r | r
    · exact hz x r
    · exact .inr (Nat.le_trans h.size r)
theorem UpdP.of {Z : Nat → Prop} {w w' : World} {S : List Nat} (h : Upd S w w') (hs : ∀ x ∈ S, Z x ∨ w.heap.size ≤ x) : UpdP Z w w' := ⟨S, h, hs⟩
theorem UpdP.of0 {Z : Nat → Prop} {w w' : World} (h : Upd [] w w') : UpdP Z w w' := ⟨[], h, fun _ q => (by cases q)⟩
theorem UpdP.mono {Z Z' : Nat → Prop} {w w' : World} (h : UpdP Z w w') (hz : ∀ x, Z x → Z' x ∨ w.heap.size ≤ x) : UpdP Z' w w' := by
  obtain ⟨S, h, hs⟩ := h
  refine ⟨S, h, fun x hx => ?_⟩
  rcases hs x hx with q | q
  · exact hz x q
  · exact .inr q
theorem Upd.transP {Z : Nat → Prop} {w a b : World} (h : Upd [] w a) (k : UpdP Z a b) (hz : ∀ x, Z x → w.heap.size ≤ x) : Upd [] w b := by
  obtain ⟨S, k, ks⟩ := k
  refine h.trans k fun x hx => .inr ?_
  rcases ks x hx with q | q
  · exact hz x q
  · exact Nat.le_trans h.size q

/-- Z, and all that is new -/
def grow (Z : Nat → Prop) (w : World) : Nat → Prop := fun x => Z x ∨ w.heap.size ≤ x
/-- of Z what is there -/
def cutZ (Z : Nat → Prop) (w : World) : Nat → Prop := fun x => Z x ∧ x < w.heap.size

theorem UpdP.undrew {Z : Nat → Prop} {w w' : World} (h : UpdP Z w.drew w') : UpdP Z w w' := by
  obtain ⟨S, h, hs⟩ := h
  exact ⟨S, ⟨h.os, h.tape, h.output, h.size, h.block⟩, hs⟩
theorem cells_ne {w : World} {a b : Nat} {x y : Array Value} {t u : TypeId} {p q : Nat × Nat} (ha : w.heap[a]? = some (.cells x t p)) (hb : w.heap[b]? = some (.cells y u q)) (h : t ≠ u) : a ≠ b := by
  rintro rfl
  have hx := ha.symm.trans hb
  injection hx with hx; injection hx with _ hx
  exact h hx
end Go.Proofs.Ytagadbgbicebaaa

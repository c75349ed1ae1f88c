/-
  Chapter 38's table: new, and whether a connection takes bytes. No condition.
-/
import Derived.Test.YtagadbgbicebaaaConnNil
namespace Go.Proofs.Ytagadbgbicebaaa
open Go Go.RowKit

theorem cnew_c (w : World) : Calls Try.prog 40 #[] w fun e w' => e = .returned (.pointer (some ⟨w.heap.size, 0, none⟩)) ∧ Upd [] w w' ∧ w'.heap[w.heap.size]? = some (.cells #[.slice none 0 0] 56 (0, 0)) := by
  refine post fun R hR => ?_
  go_enter Try.func40, Try.ntmps40
  go_wp2_with fail
  exact hR.out _ _ ⟨rfl, (Upd.refl _ _).alloc _, heap_alloc_new _ _⟩
end Go.Proofs.Ytagadbgbicebaaa

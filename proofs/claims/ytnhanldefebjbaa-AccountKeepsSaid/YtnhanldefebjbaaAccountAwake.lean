/-
  Chapter 24's example holds. No condition.
-/
import Derived.Test.YtnhanldefebjbaaAccount
namespace Go.Proofs.Ytnhanldefebjbaa
open Go Go.RowKit

set_option maxHeartbeats 400000 in
theorem aawake_c (w : World) : Calls Try.prog 14 #[] w fun e w' => e = .returned (.bool true) ∧ Upd [] w w' := by
  have e0 : moveErr 5 3 13 = 0 := by decide
  have e1 : moveErr 2 3 13 = 13 := by decide
  refine post fun R hR => ?_
  go_enter Try.func14, Try.ntmps14
  go_wp2_with (fail)
  refine Calls.mono (anew_c _ _) ?_
  rintro e w1 ⟨rfl, hu1, hh1⟩
  have hb1 : AcAt w1 w.heap.size 0 #[i64 5, i64 0] 40 5 0 := ⟨hh1, rfl, rfl⟩
  go_wp2_with (fail)
  refine Calls.mono (atake_c hb1 3 (by omega) (by omega)) ?_
  rintro e w2 ⟨rfl, hu2, hh2⟩
  have hb2 : AcAt w2 w.heap.size 0 #[i64 5, i64 3] 40 5 3 := ⟨hh2, rfl, rfl⟩
  go_wp2_with (fail)
  refine Calls.mono (atake_c hb2 3 (by omega) (by omega)) ?_
  rintro e w3 ⟨rfl, hu3, hh3⟩
  have hb3 : AcAt w3 w.heap.size 0 #[i64 5, i64 3] 40 5 3 := ⟨hh3, rfl, rfl⟩
  go_wp2_with (fail)
  refine Calls.mono (taken_c hb3) ?_
  rintro e w4 ⟨rfl, hu4⟩
  go_wp2_with (fail)
  refine hR.out _ _ ⟨rfl, ?_⟩
  exact (hu1.trans (hu2.trans' hu3) (by simp)).trans hu4 (by simp)

end Go.Proofs.Ytnhanldefebjbaa

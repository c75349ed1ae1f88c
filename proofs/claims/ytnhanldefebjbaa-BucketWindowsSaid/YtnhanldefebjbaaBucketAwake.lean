/-
  Chapter 23's example holds. No condition.
-/
import Derived.Test.YtnhanldefebjbaaBase
import Derived.Test.YtnhanldefebjbaaBucket
namespace Go.Proofs.Ytnhanldefebjbaa
open Go Go.RowKit Go.ChangeShapes Go.WideShapes Go.ChangeAt

set_option maxHeartbeats 400000 in
theorem bawake_c (w : World) : Calls Try.prog 25 #[] w fun e w' => e = .returned (.bool true) ∧ Upd [] w w' := by
  have e0 : takeErr 5 4 = 0 := by decide
  refine post fun R hR => ?_
  go_enter Try.func25, Try.ntmps25
  go_wp2_with (fail)
  refine (new_c _ _ _).mono ?_
  rintro e w1 ⟨rfl, hu1, hh1⟩
  have hb1 : BkAt w1 w.heap.size 0 #[i64 2, i64 5, i64 5] 56 2 5 5 := ⟨hh1, rfl, rfl, rfl⟩
  go_wp2_with (fail)
  refine (take_c hb1 4 (by omega)).mono ?_
  rintro e w2 ⟨rfl, hu2, hh2⟩
  have hb2 : BkAt w2 w.heap.size 0 #[i64 2, i64 5, i64 1] 56 2 5 1 := ⟨hh2, rfl, rfl, rfl⟩
  go_wp2_with (fail)
  refine (tick_c hb2 (by omega) (by omega)).mono ?_
  rintro e w3 ⟨rfl, hu3, hh3⟩
  have hb3 : BkAt w3 w.heap.size 0 #[i64 2, i64 5, i64 3] 56 2 5 3 := ⟨hh3, rfl, rfl, rfl⟩
  go_wp2_with (fail)
  refine (tokens_c hb3).mono ?_
  rintro e w4 ⟨rfl, rfl⟩
  go_wp2_with (fail)
  refine hR.out _ _ ⟨rfl, ?_⟩
  exact hu1.trans ((hu2.trans' hu3)) (by simp)

end Go.Proofs.Ytnhanldefebjbaa

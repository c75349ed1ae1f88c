/-
  FlowsNone: flows that are not there take nothing. No condition.
-/
import Derived.Test.YtabhdigannalgaaFlwAwake
import Derived.Test.YtabhdigannalgaaOpen
namespace Go.Proofs.Ytabhdigannalgaa
open Go Go.RowKit Go.ChangeShapes Go.WideShapes Go.ChangeAt

theorem frowNil_c (n : Int) (w : World) : Calls Try.prog 60 #[.pointer none, i64 n] w fun e w' => e = .returned (.slice none 0 0) ∧ w = w' := by
  refine post fun R hR => ?_
  go_enter Try.func60, Try.ntmps60
  go_wp2_with fail
  exact hR.out _ _ ⟨rfl, rfl⟩
theorem fsetNil_c (n m : Int) (w : World) : Calls Try.prog 30 #[.pointer none, i64 n, i64 m] w fun e w' => e = .returned (i64 17) ∧ w = w' := by
  refine post fun R hR => ?_
  go_enter Try.func30, Try.ntmps30
  go_wp2_with fail
  exact hR.out _ _ ⟨rfl, rfl⟩
theorem fdropNil_c (n : Int) (w : World) : Calls Try.prog 32 #[.pointer none, i64 n] w fun e w' => e = .returned (.slice none 0 0) ∧ w = w' := by
  refine post fun R hR => ?_
  go_enter Try.func32, Try.ntmps32
  go_wp2_with (fail)
  refine Calls.mono (frowNil_c _ _) ?_
  rintro e w2 ⟨rfl, rfl⟩
  go_wp2_with fail
  exact hR.out _ _ ⟨rfl, rfl⟩
theorem frestNil_c (n : Int) (b : Bool) (w : World) : Calls Try.prog 33 #[.pointer none, i64 n, .bool b] w fun e w' => e = .returned (i64 17) ∧ w = w' := by
  refine post fun R hR => ?_
  go_enter Try.func33, Try.ntmps33
  go_wp2_with fail
  exact hR.out _ _ ⟨rfl, rfl⟩
theorem fpushNil_c (n : Int) (x : It) (w : World) : Calls Try.prog 34 #[.pointer none, i64 n, iv x] w fun e w' => e = .returned (i64 17) ∧ Upd [] w w' := by
  rcases x with ⟨c, k, f, b, a⟩
  unfold iv
  refine post fun R hR => ?_
  go_enter Try.func34, Try.ntmps34
  go_wp2_with fail
  exact hR.out _ _ ⟨rfl, (Upd.refl _ _).alloc _⟩
theorem fnextNil_c (w : World) : Calls Try.prog 36 #[.pointer none] w fun e w' => e = .returned (.tuple #[i64 0, .agg #[i64 0, i64 0, i64 0, .string ⟨#[]⟩, i64 0], .bool false]) ∧ Upd [] w w' := by
  have hA := heap_alloc_new w (.cells #[i64 0, i64 0, i64 0, .string ⟨#[]⟩, i64 0] 74)
  have hu := (Upd.refl [] w).alloc (.cells #[i64 0, i64 0, i64 0, .string ⟨#[]⟩, i64 0] 74)
  have HA := Lib.hid hA
  have HU := Lib.hid hu
  clear hA hu
  refine post fun R hR => ?_
  go_enter Try.func36, Try.ntmps36
  go_wp2_with fail
  have hA := HA.out
  have hu := HU.out
  clear HA HU
  generalize w.alloc (.cells #[i64 0, i64 0, i64 0, .string ⟨#[]⟩, i64 0] 74) = w1 at *
  have c0 := cellOf hA 0
  have c1 := cellOf hA 1
  have c2 := cellOf hA 2
  have c3 := cellOf hA 3
  have c4 := cellOf hA 4
  refine bodyPost_ret (v := .tuple #[i64 0, .agg #[i64 0, i64 0, i64 0, .string ⟨#[]⟩, i64 0], .bool false]) (by simp [results, Try.results36, go_sem, *]) rfl ?_
  refine hR.out _ _ ?_
  exact ⟨rfl, hu⟩
theorem fwaitsNil_c (n : Int) (w : World) : Calls Try.prog 46 #[.pointer none, i64 n] w fun e w' => e = .returned (i64 0) ∧ w = w' := by
  refine post fun R hR => ?_
  go_enter Try.func46, Try.ntmps46
  go_wp2_with (fail)
  refine Calls.mono (frowNil_c _ _) ?_
  rintro e w2 ⟨rfl, rfl⟩
  go_wp2_with fail
  exact hR.out _ _ ⟨rfl, rfl⟩
theorem fcostNil_c (n : Int) (w : World) : Calls Try.prog 47 #[.pointer none, i64 n] w fun e w' => e = .returned (i64 0) ∧ w = w' := by
  refine post fun R hR => ?_
  go_enter Try.func47, Try.ntmps47
  go_wp2_with (fail)
  refine Calls.mono (frowNil_c _ _) ?_
  rintro e w2 ⟨rfl, rfl⟩
  go_wp2_with fail
  refine wp_loop_once ?_
  go_wp2_with (fail)
  exact hR.out _ _ ⟨rfl, rfl⟩
theorem factiveNil_c (w : World) : Calls Try.prog 48 #[.pointer none] w fun e w' => e = .returned (.slice none 0 0) ∧ w = w' := by
  refine post fun R hR => ?_
  go_enter Try.func48, Try.ntmps48
  go_wp2_with fail
  exact hR.out _ _ ⟨rfl, rfl⟩
theorem fitemsNil_c (n : Int) (w : World) : Calls Try.prog 49 #[.pointer none, i64 n] w fun e w' => ∃ v, e = .returned v ∧ Sub w' w.heap.size 74 5 v 0 [] ∧ Upd [] w w' := by
  refine post fun R hR => ?_
  go_enter Try.func49, Try.ntmps49
  go_wp2_with (fail)
  refine Calls.mono (frowNil_c _ _) ?_
  rintro e w2 ⟨rfl, rfl⟩
  go_wp2_with (fail)
  refine Calls.mono (iclone_c (l := []) (sub_nil _ _ _ _) (by simp)) ?_
  rintro e w2 ⟨v, rfl, hs, hu⟩
  have HS := Lib.hid hs
  have HU := Lib.hid hu
  clear hs hu
  go_wp2_with fail
  exact hR.out _ _ ⟨_, rfl, HS.out, HU.out⟩
/-- the document's item as the program's -/
theorem ours_c (x : It) (w : World) : Calls Try.prog 35 #[iv x] w fun e w' => e = .returned (iv x) ∧ Upd [] w w' := by
  rcases x with ⟨c, k, f, b, a⟩
  unfold iv
  have hA := heap_alloc_new (w.alloc (.cells #[i64 c, i64 k, i64 f, .string b, i64 a] 68)) (.cells #[i64 c, i64 k, i64 f, .string b, i64 a] 74)
  have hu := ((Upd.refl [] w).alloc (.cells #[i64 c, i64 k, i64 f, .string b, i64 a] 68)).alloc (.cells #[i64 c, i64 k, i64 f, .string b, i64 a] 74)
  have hz : (w.alloc (.cells #[i64 c, i64 k, i64 f, .string b, i64 a] 68)).heap.size = w.heap.size + 1 := Array.size_push _
  rw [hz] at hA
  have HA := Lib.hid hA
  have HU := Lib.hid hu
  clear hA hu hz
  refine post fun R hR => ?_
  go_enter Try.func35, Try.ntmps35
  go_wp2_with fail
  have hA := HA.out
  have hu := HU.out
  clear HA HU
  generalize (w.alloc (.cells #[i64 c, i64 k, i64 f, .string b, i64 a] 68)).alloc (.cells #[i64 c, i64 k, i64 f, .string b, i64 a] 74) = w1 at *
  have c0 := cellOf hA 0
  have c1 := cellOf hA 1
  have c2 := cellOf hA 2
  have c3 := cellOf hA 3
  have c4 := cellOf hA 4
  refine bodyPost_ret (v := .agg #[i64 c, i64 k, i64 f, .string b, i64 a]) (by simp [results, Try.results35, go_sem, *]) rfl ?_
  refine hR.out _ _ ?_
  exact ⟨rfl, hu⟩
end Go.Proofs.Ytabhdigannalgaa

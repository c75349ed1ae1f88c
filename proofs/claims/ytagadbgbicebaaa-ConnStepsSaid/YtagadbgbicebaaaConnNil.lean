/-
  What chapter 38's table answers when it is not there. No condition.
-/
import Derived.Test.YtagadbgbicebaaaProg
import Derived.Test.YtagadbgbicebaaaBase
namespace Go.Proofs.Ytagadbgbicebaaa
open Go Go.RowKit

theorem cfindNil_c (n : Int) (w : World) : Calls Try.prog 52 #[.pointer none, i64 n] w fun e w' => e = .returned (.tuple #[.pointer none, i64 12]) ∧ w = w' := by
  refine post fun R hR => ?_
  go_enter Try.func52, Try.ntmps52
  go_wp2_with fail
  exact hR.out _ _ ⟨rfl, rfl⟩

theorem copenNil_c (w : World) : Calls Try.prog 41 #[.pointer none] w fun e w' => e = .returned (.tuple #[i64 0, i64 17]) ∧ w = w' := by
  refine post fun R hR => ?_
  go_enter Try.func41, Try.ntmps41
  go_wp2_with fail
  exact hR.out _ _ ⟨rfl, rfl⟩

theorem cpushNil_c (n : Int) (s : ByteArray) (w : World) : Calls Try.prog 42 #[.pointer none, i64 n, .string s] w fun e w' => e = .returned (.tuple #[.slice none 0 0, i64 12]) ∧ w = w' := by
  refine post fun R hR => ?_
  go_enter Try.func42, Try.ntmps42
  go_wp2_with (fail)
  refine Calls.mono (cfindNil_c _ _) ?_
  rintro e w2 ⟨rfl, rfl⟩
  go_wp2_with fail
  exact hR.out _ _ ⟨rfl, rfl⟩

theorem cbrokenNil_c (n : Int) (w : World) : Calls Try.prog 47 #[.pointer none, i64 n] w fun e w' => e = .returned (i64 0) ∧ w = w' := by
  refine post fun R hR => ?_
  go_enter Try.func47, Try.ntmps47
  go_wp2_with (fail)
  refine Calls.mono (cfindNil_c _ _) ?_
  rintro e w2 ⟨rfl, rfl⟩
  go_wp2_with fail
  exact hR.out _ _ ⟨rfl, rfl⟩

theorem cbindNil_c (n m : Int) (w : World) : Calls Try.prog 34 #[.pointer none, i64 n, i64 m] w fun e w' => e = .returned (i64 12) ∧ w = w' := by
  refine post fun R hR => ?_
  go_enter Try.func34, Try.ntmps34
  go_wp2_with (fail)
  refine Calls.mono (cfindNil_c _ _) ?_
  rintro e w2 ⟨rfl, rfl⟩
  go_wp2_with fail
  exact hR.out _ _ ⟨rfl, rfl⟩

theorem cshutNil_c (n : Int) (w : World) : Calls Try.prog 35 #[.pointer none, i64 n] w fun e w' => e = .returned (i64 12) ∧ w = w' := by
  refine post fun R hR => ?_
  go_enter Try.func35, Try.ntmps35
  go_wp2_with (fail)
  refine Calls.mono (cfindNil_c _ _) ?_
  rintro e w2 ⟨rfl, rfl⟩
  go_wp2_with fail
  exact hR.out _ _ ⟨rfl, rfl⟩

theorem cdropNil_c (n : Int) (w : World) : Calls Try.prog 36 #[.pointer none, i64 n] w fun e w' => e = .returned (i64 0) ∧ w = w' := by
  refine post fun R hR => ?_
  go_enter Try.func36, Try.ntmps36
  go_wp2_with (fail)
  refine Calls.mono (cfindNil_c _ _) ?_
  rintro e w2 ⟨rfl, rfl⟩
  go_wp2_with fail
  exact hR.out _ _ ⟨rfl, rfl⟩

theorem csendNil_c (n : Int) (s : ByteArray) (w : World) : Calls Try.prog 37 #[.pointer none, i64 n, .string s] w fun e w' => e = .returned (i64 12) ∧ w = w' := by
  refine post fun R hR => ?_
  go_enter Try.func37, Try.ntmps37
  go_wp2_with (fail)
  refine Calls.mono (cfindNil_c _ _) ?_
  rintro e w2 ⟨rfl, rfl⟩
  go_wp2_with fail
  exact hR.out _ _ ⟨rfl, rfl⟩

theorem cdeliverNil_c (n : Int) (w : World) : Calls Try.prog 39 #[.pointer none, i64 n] w fun e w' => e = .returned (.tuple #[.string ⟨#[]⟩, .bool false, i64 12]) ∧ w = w' := by
  refine post fun R hR => ?_
  go_enter Try.func39, Try.ntmps39
  go_wp2_with (fail)
  refine Calls.mono (cfindNil_c _ _) ?_
  rintro e w2 ⟨rfl, rfl⟩
  go_wp2_with fail
  exact hR.out _ _ ⟨rfl, rfl⟩

theorem cownerNil_c (n : Int) (w : World) : Calls Try.prog 44 #[.pointer none, i64 n] w fun e w' => e = .returned (i64 (-1)) ∧ w = w' := by
  refine post fun R hR => ?_
  go_enter Try.func44, Try.ntmps44
  go_wp2_with (fail)
  refine Calls.mono (cfindNil_c _ _) ?_
  rintro e w2 ⟨rfl, rfl⟩
  go_wp2_with fail
  exact hR.out _ _ ⟨rfl, rfl⟩

theorem ctakesNil_c (n : Int) (w : World) : Calls Try.prog 38 #[.pointer none, i64 n] w fun e w' => e = .returned (.bool false) ∧ w = w' := by
  refine post fun R hR => ?_
  go_enter Try.func38, Try.ntmps38
  go_wp2_with (fail)
  refine Calls.mono (cfindNil_c _ _) ?_
  rintro e w2 ⟨rfl, rfl⟩
  go_wp2_with fail
  exact hR.out _ _ ⟨rfl, rfl⟩

theorem cwaitsNil_c (n : Int) (w : World) : Calls Try.prog 48 #[.pointer none, i64 n] w fun e w' => e = .returned (i64 0) ∧ w = w' := by
  refine post fun R hR => ?_
  go_enter Try.func48, Try.ntmps48
  go_wp2_with (fail)
  refine Calls.mono (cfindNil_c _ _) ?_
  rintro e w2 ⟨rfl, rfl⟩
  go_wp2_with fail
  exact hR.out _ _ ⟨rfl, rfl⟩

theorem clenNil_c (w : World) : Calls Try.prog 43 #[.pointer none] w fun e w' => e = .returned (i64 0) ∧ w = w' := by
  refine post fun R hR => ?_
  go_enter Try.func43, Try.ntmps43
  go_wp2_with fail
  exact hR.out _ _ ⟨rfl, rfl⟩

theorem cofNil_c (n : Int) (w : World) : Calls Try.prog 49 #[.pointer none, i64 n] w fun e w' => e = .returned (.slice none 0 0) ∧ w = w' := by
  refine post fun R hR => ?_
  go_enter Try.func49, Try.ntmps49
  go_wp2_with (fail)
  refine Calls.mono (clenNil_c _) ?_
  rintro e w2 ⟨rfl, rfl⟩
  go_wp2_with fail
  refine wp_loop_once ?_
  go_wp2_with fail
  exact hR.out _ _ ⟨rfl, rfl⟩
end Go.Proofs.Ytagadbgbicebaaa

/-
  ConnNone: a table that is not there has no connection. For every step. No condition.
-/
import Derived.Test.YtagadbgbicebaaaOpen
import Derived.Test.YtagadbgbicebaaaConnAwake
namespace Go.Proofs.Ytagadbgbicebaaa
open Go Go.RowKit Go.ChangeShapes Go.WideShapes Go.ChangeAt

set_option maxRecDepth 100000 in
set_option maxHeartbeats 1000000 in
theorem cnone_c (k n m : Int) (s : ByteArray) (w : World) : Trues 12 #[.agg #[i64 k, i64 n, i64 m, .string s]] w := by
  unfold Trues
  refine post fun R hR => ?_
  go_enter Try.func12, Try.ntmps12
  go_wp2_with (fail)
  refine Calls.mono (copenNil_c _) ?_
  rintro e w2 ⟨rfl, rfl⟩
  go_wp2_with (fail)
  refine Calls.mono (cpushNil_c _ _ _) ?_
  rintro e w2 ⟨rfl, rfl⟩
  go_wp2_with (fail)
  refine Calls.mono (cdeliverNil_c _ _) ?_
  rintro e w2 ⟨rfl, rfl⟩
  go_wp2_with (fail)
  refine Calls.mono (cbrokenNil_c _ _) ?_
  rintro e w2 ⟨rfl, rfl⟩
  go_wp2_with (fail)
  refine Calls.mono (cbindNil_c _ _ _) ?_
  rintro e w2 ⟨rfl, rfl⟩
  go_wp2_with (fail)
  refine Calls.mono (cshutNil_c _ _) ?_
  rintro e w2 ⟨rfl, rfl⟩
  go_wp2_with (fail)
  refine Calls.mono (cdropNil_c _ _) ?_
  rintro e w2 ⟨rfl, rfl⟩
  go_wp2_with (fail)
  refine Calls.mono (csendNil_c _ _ _) ?_
  rintro e w2 ⟨rfl, rfl⟩
  go_wp2_with (fail)
  refine Calls.mono (cownerNil_c _ _) ?_
  rintro e w2 ⟨rfl, rfl⟩
  go_wp2_with (fail)
  refine Calls.mono (ctakesNil_c _ _) ?_
  rintro e w2 ⟨rfl, rfl⟩
  go_wp2_with (fail)
  refine Calls.mono (cwaitsNil_c _ _) ?_
  rintro e w2 ⟨rfl, rfl⟩
  go_wp2_with (fail)
  refine Calls.mono (cofNil_c _ _) ?_
  rintro e w2 ⟨rfl, rfl⟩
  go_wp2_with (fail)
  refine Calls.mono (clenNil_c _) ?_
  rintro e w2 ⟨rfl, rfl⟩
  go_wp2_with (fail)
  refine Calls.mono (connAwake_c _) ?_
  rintro e w2 ⟨rfl, hu⟩
  go_wp2_with (fail)
  exact hR.out _ _ ⟨rfl, ((Upd.refl _ _).alloc _).trans' hu⟩

theorem flat_cstep : flat Try.prog 5 61 = some [.int .i64, .int .i64, .int .i64, .string] := by kernel_rfl

set_option maxRecDepth 100000 in
theorem connNone_walk {H : Type} {enc : TypeId × Value → H} {W : World} {base : Nat} {args : Array Value} {ds gs : List (DataW H)} {before : List MemPlace}
    (hval : ∀ (j : Nat) t v, Try.f12.params[j]? = some t → args[j]? = some v → Value.okWide Try.prog W .any base t v)
    (hW : DataW.Whole enc Try.prog Try.f12.params.toList [] false W args.toList ds gs before) : Trues 12 args W := by
  obtain ⟨p, q, hA, -, rfl, -, -⟩ := hW
  rw [Try.params12] at hA hval
  obtain ⟨v0, d0, rfl, rfl, h0⟩ := trodAll_one hA
  obtain ⟨vs, rfl, h⟩ := open_struct Try.underlying61 flat_cstep (hval 0 61 v0 rfl rfl) h0
  obtain ⟨k, r, rfl, -, h⟩ := h.i64
  obtain ⟨n, r, rfl, -, h⟩ := h.i64
  obtain ⟨m, r, rfl, -, h⟩ := h.i64
  obtain ⟨s, r, rfl, -, h⟩ := h.str
  obtain rfl := h.none
  exact cnone_c k n m s W

set_option maxRecDepth 100000 in
theorem connNone_lifted (os : Os) (started : os.Started) (H : Type) (enc : TypeId × Value → H) :
    ReturnsInHanded {} Try.checked os 12 .any (Rows.connNoneSpec.pre6 enc Try.prog Try.f12 Rows.connNoneRow.domain false) (Rows.connNoneSpec.post enc Try.prog Try.f12 false true false false) := by
  refine returnsInHanded_of_change (C := Try.checked) own started (by kernel_rfl) Try.func12
    (ChangeSpec.witness6 (enc := enc) (C := Try.checked) false ⟨#[], #[.agg #[.int .i64 0, .int .i64 0, .int .i64 0, .string .empty]], []⟩ 8 (by kernel_rfl) (by kernel_rfl) (by kernel_rfl) (by kernel_rfl)) ?_
  intro W base args ds gs before hval hW hcnd _
  refine Calls.mono (connNone_walk hval hW) fun e W' ⟨he, hu⟩ => ?_
  exact ⟨_, he, law_post rfl rfl (by kernel_rfl) hW (fun ds h => by match ds, h with | [_], _ => rfl) hu⟩

set_option maxRecDepth 100000 in
theorem connNone_over : Rows.connNoneRow.holds Try.pinned (OpenSpec.ofChange Rows.connNoneSpec) :=
  OpenClaim.holds_of_wide 12 Try.f12 rfl rfl rfl rfl rfl rfl rfl ⟨rfl, rfl, rfl, rfl, rfl⟩ rfl rfl rfl rfl rfl (by kernel_rfl) Try.func12 (by kernel_rfl)
    (of_decide_eq_true (by kernel_rfl)) (by unfold Func.isWrapper; first | (rw [if_pos (by decide +kernel)]; kernel_rfl) | (rw [if_neg (by decide +kernel)]; exact ⟨rfl, rfl⟩))
    (fun os started H enc _ => connNone_lifted os started H enc)

theorem connNone_proved : Rows.ConnNoneSaid := connNone_over
end Go.Proofs.Ytagadbgbicebaaa

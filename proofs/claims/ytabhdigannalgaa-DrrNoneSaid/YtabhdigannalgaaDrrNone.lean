/-
  DrrNone: a ring that is not there takes nothing, and serves nobody. No condition.
-/
import Derived.Test.YtabhdigannalgaaDrrAwake
import Derived.Test.YtabhdigannalgaaOpen
namespace Go.Proofs.Ytabhdigannalgaa
open Go Go.RowKit Go.ChangeShapes Go.WideShapes Go.ChangeAt

set_option maxRecDepth 100000 in
set_option maxHeartbeats 2000000 in
theorem drrNone_c (n m : Int) (w : World) : Trues 6 #[i64 n, i64 m] w := by
  unfold Trues
  refine post fun R hR => ?_
  go_enter Try.func6, Try.ntmps6
  go_wp2_with (fail)
  refine Calls.mono (dturnNil_c _) ?_
  rintro e w1 ⟨rfl, rfl⟩
  go_wp2_with (fail)
  refine Calls.mono (dnew_c _) ?_
  rintro e w1 ⟨rfl, hu, hb⟩
  go_wp2_with (fail)
  refine Calls.mono (dturnEmpty_c (off := 0) hb rfl) ?_
  rintro e w2 ⟨rfl, rfl⟩
  clear hb
  go_wp2_with (fail)
  refine Calls.mono (dsetNil_c _ _ _) ?_
  rintro e w2 ⟨rfl, rfl⟩
  go_wp2_with (fail)
  refine Calls.mono (dpushNil_c _ _ _) ?_
  rintro e w2 ⟨rfl, rfl⟩
  go_wp2_with (fail)
  refine Calls.mono (drestNil_c _ _ _) ?_
  rintro e w2 ⟨rfl, rfl⟩
  go_wp2_with (fail)
  refine Calls.mono (ddropNil_c _ _) ?_
  rintro e w2 ⟨rfl, rfl⟩
  go_wp2_with (fail)
  refine Calls.mono (dwaitsNil_c _ _) ?_
  rintro e w2 ⟨rfl, rfl⟩
  go_wp2_with (fail)
  refine Calls.mono (dcostNil_c _ _) ?_
  rintro e w2 ⟨rfl, rfl⟩
  go_wp2_with (fail)
  refine Calls.mono (ddeficitNil_c _ _) ?_
  rintro e w2 ⟨rfl, rfl⟩
  go_wp2_with (fail)
  refine Calls.mono (dactiveNil_c _) ?_
  rintro e w2 ⟨rfl, rfl⟩
  go_wp2_with (fail)
  refine Calls.mono (drrAwake_c _) ?_
  rintro e w2 ⟨rfl, hu2⟩
  go_wp2_with (fail)
  exact hR.out _ _ ⟨rfl, hu.trans' hu2⟩

set_option maxRecDepth 100000 in
theorem drrNone_walk {H : Type} {enc : TypeId × Value → H} {W : World} {base : Nat} {args : Array Value} {ds gs : List (DataW H)} {before : List MemPlace}
    (hval : ∀ (j : Nat) t v, Try.f6.params[j]? = some t → args[j]? = some v → Value.okWide Try.prog W .any base t v)
    (hW : DataW.Whole enc Try.prog Try.f6.params.toList [] false W args.toList ds gs before) : Trues 6 args W := by
  obtain ⟨p, q, hA, -, rfl, -, -⟩ := hW
  rw [Try.params6] at hA hval
  obtain ⟨v0, v1, d0, d1, p0, p1, rfl, rfl, rfl, h0, h1⟩ := trodAll_two hA
  obtain ⟨n, rfl, rfl, rfl, wn⟩ := open_int Try.underlying3 (hval 0 3 v0 rfl rfl) h0
  obtain ⟨m, rfl, rfl, rfl, wm⟩ := open_int Try.underlying3 (hval 1 3 v1 rfl rfl) h1
  exact drrNone_c n m W

set_option maxRecDepth 100000 in
theorem drrNone_lifted (os : Os) (started : os.Started) (H : Type) (enc : TypeId × Value → H) :
    ReturnsInHanded {} Try.checked os 6 .any (Rows.drrNoneSpec.pre6 enc Try.prog Try.f6 Rows.drrNoneRow.domain false) (Rows.drrNoneSpec.post enc Try.prog Try.f6 false true false false) := by
  refine returnsInHanded_of_change (C := Try.checked) own started (by kernel_rfl) Try.func6
    (ChangeSpec.witness6 (enc := enc) (C := Try.checked) false ⟨#[], #[.int .i64 0, .int .i64 0], []⟩ 8 (by kernel_rfl) (by kernel_rfl) (by kernel_rfl) (by kernel_rfl)) ?_
  intro W base args ds gs before hval hW hcnd _
  refine Calls.mono (drrNone_walk hval hW) fun e W' ⟨he, hu⟩ => ?_
  exact ⟨_, he, law_post rfl rfl (by kernel_rfl) hW (fun ds h => by match ds, h with | [_, _], _ => rfl) hu⟩

set_option maxRecDepth 100000 in
theorem drrNone_over : Rows.drrNoneRow.holds Try.pinned (OpenSpec.ofChange Rows.drrNoneSpec) :=
  OpenClaim.holds_of_wide 6 Try.f6 rfl rfl rfl rfl rfl rfl rfl ⟨rfl, rfl, rfl, rfl, rfl⟩ rfl rfl rfl rfl rfl (by kernel_rfl) Try.func6 (by kernel_rfl)
    (of_decide_eq_true (by kernel_rfl)) (by unfold Func.isWrapper; first | (rw [if_pos (by decide +kernel)]; kernel_rfl) | (rw [if_neg (by decide +kernel)]; exact ⟨rfl, rfl⟩))
    (fun os started H enc _ => drrNone_lifted os started H enc)

theorem drrNone_proved : Rows.DrrNoneSaid := drrNone_over
end Go.Proofs.Ytabhdigannalgaa

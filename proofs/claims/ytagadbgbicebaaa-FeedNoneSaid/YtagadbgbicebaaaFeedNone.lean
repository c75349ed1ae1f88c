/-
  FeedNone: a feed that is not there tells nothing, and a broken one takes nothing. For every string. No condition.
-/
import Derived.Test.YtagadbgbicebaaaFrame
import Derived.Test.YtagadbgbicebaaaFeedMisc
namespace Go.Proofs.Ytagadbgbicebaaa
open Go Go.RowKit Go.ChangeShapes Go.WideShapes Go.ChangeAt
open Go.ChangeMaps (open_string shut_string)

set_option maxHeartbeats 1000000 in
theorem fnone_c (t : ByteArray) (w : World) : Trues 8 #[.string t] w := by
  unfold Trues
  refine post fun R hR => ?_
  go_enter Try.func8, Try.ntmps8
  go_wp2_with (fail)
  refine Calls.mono (fnew_c _) ?_
  rintro e w1 ⟨rfl, hu1, hh1⟩
  go_wp2_with fail
  refine Calls.mono (push_c hh1 rfl rfl ⟨#[0, 0, 0, 0]⟩ (by decide)) ?_
  rintro e w2 ⟨v2, rfl, ho2, hu2, hh2⟩
  rw [show allFr ((ByteArray.mk #[]).data.toList ++ (ByteArray.mk #[0, 0, 0, 0]).data.toList) = ⟨[], [], 4⟩ from rfl] at ho2 hh2
  replace hh2 : w2.heap[w.heap.size]? = some (.cells #[.string ⟨#[]⟩, i64 4] 50 (0, 0)) := hh2
  go_wp2_with (fail)
  refine Calls.mono (pushNil_c t _) ?_
  rintro e w3 ⟨rfl, rfl⟩
  go_wp2_with (fail)
  refine Calls.mono (brokenNil_c _) ?_
  rintro e w3 ⟨rfl, rfl⟩
  go_wp2_with (fail)
  refine Calls.mono (waitsNil_c _) ?_
  rintro e w3 ⟨rfl, rfl⟩
  go_wp2_with fail
  refine Calls.mono (broken_c (x := 4) hh2 rfl) ?_
  rintro e w3 ⟨rfl, rfl⟩
  go_wp2_with fail
  refine Calls.mono (pushBad_c (x := 4) hh2 rfl (by decide) t) ?_
  rintro e w3 ⟨rfl, rfl⟩
  go_wp2_with fail
  refine Calls.mono (waits_c (s := ⟨#[]⟩) hh2 rfl) ?_
  rintro e w3 ⟨rfl, rfl⟩
  go_wp2_with fail
  refine Calls.mono (broken_c (x := 4) hh2 rfl) ?_
  rintro e w3 ⟨rfl, rfl⟩
  go_wp2_with (fail)
  refine Calls.mono (feedAwake_c _) ?_
  rintro e w3 ⟨rfl, hu3⟩
  go_wp2_with fail
  exact hR.out _ _ ⟨rfl, (hu1.trans hu2 (by simp)).trans' hu3⟩

set_option maxRecDepth 100000 in
theorem feedNone_walk {H : Type} {enc : TypeId × Value → H} {W : World} {base : Nat} {args : Array Value} {ds gs : List (DataW H)} {before : List MemPlace}
    (hval : ∀ (j : Nat) t v, Try.f8.params[j]? = some t → args[j]? = some v → Value.okWide Try.prog W .any base t v)
    (hW : DataW.Whole enc Try.prog Try.f8.params.toList [] false W args.toList ds gs before) : Trues 8 args W := by
  obtain ⟨p, q, hA, -, rfl, -, -⟩ := hW
  rw [Try.params8] at hA hval
  obtain ⟨v0, d0, rfl, rfl, h0⟩ := trodAll_one hA
  obtain ⟨s, rfl, rfl, rfl, hs⟩ := open_string Try.underlying9 (hval 0 9 v0 rfl rfl) h0
  exact fnone_c s W

set_option maxRecDepth 100000 in
theorem feedNone_lifted (os : Os) (started : os.Started) (H : Type) (enc : TypeId × Value → H) :
    ReturnsInHanded {} Try.checked os 8 .any (Rows.feedNoneSpec.pre6 enc Try.prog Try.f8 Rows.feedNoneRow.domain false) (Rows.feedNoneSpec.post enc Try.prog Try.f8 false true false false) := by
  refine returnsInHanded_of_change (C := Try.checked) own started (by kernel_rfl) Try.func8
    (ChangeSpec.witness6 (enc := enc) (C := Try.checked) false ⟨#[], #[.string .empty], []⟩ 8 (by kernel_rfl) (by kernel_rfl) (by kernel_rfl) (by kernel_rfl)) ?_
  intro W base args ds gs before hval hW hcnd _
  refine Calls.mono (feedNone_walk hval hW) fun e W' ⟨he, hu⟩ => ?_
  exact ⟨_, he, law_post rfl rfl (by kernel_rfl) hW (fun ds h => by match ds, h with | [_], _ => rfl) hu⟩

set_option maxRecDepth 100000 in
theorem feedNone_over : Rows.feedNoneRow.holds Try.pinned (OpenSpec.ofChange Rows.feedNoneSpec) :=
  OpenClaim.holds_of_wide 8 Try.f8 rfl rfl rfl rfl rfl rfl rfl ⟨rfl, rfl, rfl, rfl, rfl⟩ rfl rfl rfl rfl rfl (by kernel_rfl) Try.func8 (by kernel_rfl)
    (of_decide_eq_true (by kernel_rfl)) (by unfold Func.isWrapper; first | (rw [if_pos (by decide +kernel)]; kernel_rfl) | (rw [if_neg (by decide +kernel)]; exact ⟨rfl, rfl⟩))
    (fun os started H enc _ => feedNone_lifted os started H enc)

theorem feedNone_proved : Rows.FeedNoneSaid := feedNone_over
end Go.Proofs.Ytagadbgbicebaaa

/-
  DedupNone: a cache that is not there keeps nothing. For every id and string. No condition.
-/
import Derived.Test.YtipcgddcbnhejaaFrame
import Derived.Test.YtipcgddcbnhejaaDedRef
namespace Go.Proofs.Ytipcgddcbnhejaa
open Go Go.RowKit Go.ChangeShapes Go.WideShapes Go.ChangeAt
open Go.ChangeMaps (open_string shut_string)

theorem dnone_c (id : Int) (s : ByteArray) (w : World) : Trues 5 #[.int .u64 id, .string s] w := by
  unfold Trues
  have e1 : kgB [] id = false := rfl
  have E1 := Lib.hid e1
  clear e1
  refine post fun R hR => ?_
  go_enter Try.func5, Try.ntmps5
  go_wp2_with (fail)
  refine Calls.mono (putNil_c _ _ _) ?_
  rintro e w1 ⟨rfl, rfl⟩
  go_wp2_with (fail)
  refine Calls.mono (getNil_c _ _) ?_
  rintro e w1 ⟨rfl, rfl⟩
  go_wp2_with (fail)
  refine Calls.mono (dnew_c _) ?_
  rintro e w1 ⟨rfl, hu1, hd1⟩
  go_wp2_with fail
  refine Calls.mono (get2_c hd1 id) ?_
  rintro e w2 ⟨rfl, hu2⟩
  rw [E1.out]
  go_wp2_with fail
  refine Calls.mono (lenNil_c _) ?_
  rintro e w3 ⟨rfl, rfl⟩
  go_wp2_with (fail)
  refine Calls.mono (idsNil_c _) ?_
  rintro e w1 ⟨rfl, rfl⟩
  go_wp2_with (fail)
  refine Calls.mono (dawake_c _) ?_
  rintro e w4 ⟨rfl, hu4⟩
  go_wp2_with fail
  exact hR.out _ _ ⟨rfl, (hu1.trans' hu2).trans' hu4⟩

set_option maxRecDepth 100000 in
theorem dedupNone_walk {H : Type} {enc : TypeId × Value → H} {W : World} {base : Nat} {args : Array Value} {ds gs : List (DataW H)} {before : List MemPlace}
    (hval : ∀ (j : Nat) t v, Try.f5.params[j]? = some t → args[j]? = some v → Value.okWide Try.prog W .any base t v)
    (hW : DataW.Whole enc Try.prog Try.f5.params.toList [] false W args.toList ds gs before) : Trues 5 args W := by
  obtain ⟨p, q, hA, -, rfl, -, -⟩ := hW
  rw [Try.params5] at hA hval
  obtain ⟨v0, v1, d0, d1, p0, p1, rfl, rfl, rfl, h0, h1⟩ := trodAll_two hA
  obtain ⟨n, rfl, rfl, rfl, wn⟩ := open_int Try.underlying22 (hval 0 22 v0 rfl rfl) h0
  obtain ⟨s, rfl, rfl, rfl, hs⟩ := open_string Try.underlying9 (hval 1 9 v1 rfl rfl) h1
  exact dnone_c n s W

set_option maxRecDepth 100000 in
theorem dedupNone_lifted (os : Os) (started : os.Started) (H : Type) (enc : TypeId × Value → H) :
    ReturnsInHanded {} Try.checked os 5 .any (Rows.dedupNoneSpec.pre6 enc Try.prog Try.f5 Rows.dedupNoneRow.domain false) (Rows.dedupNoneSpec.post enc Try.prog Try.f5 false true false false) := by
  refine returnsInHanded_of_change (C := Try.checked) own started (by kernel_rfl) Try.func5
    (ChangeSpec.witness6 (enc := enc) (C := Try.checked) false ⟨#[], #[.int .u64 0, .string .empty], []⟩ 8 (by kernel_rfl) (by kernel_rfl) (by kernel_rfl) (by kernel_rfl)) ?_
  intro W base args ds gs before hval hW hcnd _
  refine Calls.mono (dedupNone_walk hval hW) fun e W' ⟨he, hu⟩ => ?_
  exact ⟨_, he, law_post rfl rfl (by kernel_rfl) hW (fun ds h => by match ds, h with | [_, _], _ => rfl) hu⟩

set_option maxRecDepth 100000 in
theorem dedupNone_over : Rows.dedupNoneRow.holds Try.pinned (OpenSpec.ofChange Rows.dedupNoneSpec) :=
  OpenClaim.holds_of_wide 5 Try.f5 rfl rfl rfl rfl rfl rfl rfl ⟨rfl, rfl, rfl, rfl, rfl⟩ rfl rfl rfl rfl rfl (by kernel_rfl) Try.func5 (by kernel_rfl)
    (of_decide_eq_true (by kernel_rfl)) (by unfold Func.isWrapper; first | (rw [if_pos (by decide +kernel)]; kernel_rfl) | (rw [if_neg (by decide +kernel)]; exact ⟨rfl, rfl⟩))
    (fun os started H enc _ => dedupNone_lifted os started H enc)

theorem dedupNone_proved : Rows.DedupNoneSaid := dedupNone_over
end Go.Proofs.Ytipcgddcbnhejaa

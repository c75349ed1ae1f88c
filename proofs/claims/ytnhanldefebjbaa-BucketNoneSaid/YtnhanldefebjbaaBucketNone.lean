/-
  BucketNone: a bucket that is not there, or that no call made, has nothing. For every number. No condition.
-/
import Derived.Test.YtnhanldefebjbaaFrame
import Derived.Test.YtnhanldefebjbaaBucketAwake
namespace Go.Proofs.Ytnhanldefebjbaa
open Go Go.RowKit Go.ChangeShapes Go.WideShapes Go.ChangeAt

set_option maxHeartbeats 400000 in
theorem bnone_c (n x : Int) (hx : takeErr 0 n = x) (w : World)
    (hcase : (0 < n ∧ x = 14) ∨ (n < 0 ∧ x = 1) ∨ (0 ≤ n ∧ n ≤ 0 ∧ x = 0)) : Calls Try.prog 8 #[i64 n] w fun e w' => e = .returned (.bool true) ∧ Upd [] w w' := by
  have hb0 : BkAt (w.alloc (.cells #[i64 0, i64 0, i64 0] 56)) w.heap.size 0 #[i64 0, i64 0, i64 0] 56 0 0 0 := ⟨heap_alloc_new _ _, rfl, rfl, rfl⟩
  have HX := Lib.hid hx
  have HB := Lib.hid hb0
  clear hx hb0
  rcases hcase with ⟨h1, h'⟩ | ⟨h1, h'⟩ | ⟨h1, h2, h'⟩
  all_goals
    subst h'
    refine post fun R hR => ?_
    go_enter Try.func8, Try.ntmps8
    go_wp2_with (fail)
    refine (tickNil_c _).mono ?_
    rintro e w1 ⟨rfl, rfl⟩
    go_wp2_with (fail)
    refine (setNil_c _ _ _).mono ?_
    rintro e w1 ⟨rfl, rfl⟩
    go_wp2_with (fail)
    refine (tick_c HB.out (by omega) (by omega)).mono ?_
    rintro e w1 ⟨rfl, hu1, hh1⟩
    have hb1 : BkAt w1 w.heap.size 0 #[i64 0, i64 0, i64 0] 56 0 0 0 := ⟨hh1, rfl, rfl, rfl⟩
    go_wp2_with (fail)
    refine (takeNil_c _ _).mono ?_
    rintro e w2 ⟨rfl, rfl⟩
    rw [HX.out]
    go_wp2_with (fail)
    refine (tokensNil_c _).mono ?_
    rintro e w2 ⟨rfl, rfl⟩
    go_wp2_with (fail)
    refine (take_c hb1 n (by omega)).mono ?_
    rintro e w3 ⟨rfl, hu3, hh3⟩
    rw [HX.out] at hh3 ⊢
    have hb3 : BkAt w3 w.heap.size 0 #[i64 0, i64 0, i64 0] 56 0 0 0 := ⟨hh3.trans (by split; all_goals first | rfl | omega | (obtain rfl : n = 0 := (by omega); rfl)), rfl, rfl, rfl⟩
    go_wp2_with (fail)
    refine (tokens_c hb3).mono ?_
    rintro e w4 ⟨rfl, rfl⟩
    go_wp2_with (fail)
    refine (bawake_c _).mono ?_
    rintro e w5 ⟨rfl, hu5⟩
    go_wp2_with (fail)
    refine hR.out _ _ ⟨rfl, ?_⟩
    exact Upd.trans (((Upd.refl [] w).alloc _).trans (hu1.trans' hu3) (by simp)) hu5 (by simp)

theorem bucketNone_walk {H : Type} {enc : TypeId × Value → H} {W : World} {base : Nat} {args : Array Value} {ds gs : List (DataW H)} {before : List MemPlace}
    (hval : ∀ (j : Nat) t v, Try.f8.params[j]? = some t → args[j]? = some v → Value.okWide Try.prog W .any base t v)
    (hW : DataW.Whole enc Try.prog Try.f8.params.toList [] false W args.toList ds gs before) : Trues 8 args W := by
  obtain ⟨p, q, hA, -, rfl, -, -⟩ := hW
  rw [Try.params8] at hA hval
  obtain ⟨v0, d0, rfl, rfl, h0⟩ := trodAll_one hA
  obtain ⟨n, rfl, rfl, rfl, wn⟩ := open_int Try.underlying3 (hval 0 3 v0 rfl rfl) h0
  rcases Int.lt_trichotomy n 0 with h | h | h
  · exact bnone_c n 1 (by unfold takeErr; rw [if_pos h]) W (.inr (.inl ⟨h, rfl⟩))
  · exact bnone_c n 0 (by subst h; rfl) W (.inr (.inr ⟨by omega, by omega, rfl⟩))
  · exact bnone_c n 14 (by unfold takeErr; rw [if_neg (by omega), if_pos h]) W (.inl ⟨h, rfl⟩)

set_option maxRecDepth 100000 in
theorem bucketNone_lifted (os : Os) (started : os.Started) (H : Type) (enc : TypeId × Value → H) :
    ReturnsInHanded {} Try.checked os 8 .any (Rows.bucketNoneSpec.pre6 enc Try.prog Try.f8 Rows.bucketNoneRow.domain false) (Rows.bucketNoneSpec.post enc Try.prog Try.f8 false true false false) := by
  refine returnsInHanded_of_change (C := Try.checked) own started (by kernel_rfl) Try.func8
    (ChangeSpec.witness6 (enc := enc) (C := Try.checked) false ⟨#[], #[.int .i64 0], []⟩ 8 (by kernel_rfl) (by kernel_rfl) (by kernel_rfl) (by kernel_rfl)) ?_
  intro W base args ds gs before hval hW hcnd _
  refine Calls.mono (bucketNone_walk hval hW) fun e W' ⟨he, hu⟩ => ?_
  exact ⟨_, he, law_post rfl rfl (by kernel_rfl) hW (fun ds h => by match ds, h with | [_], _ => rfl) hu⟩

theorem bucketNone_over : Rows.bucketNoneRow.holds Try.pinned (OpenSpec.ofChange Rows.bucketNoneSpec) :=
  OpenClaim.holds_of_wide 8 Try.f8 rfl rfl rfl rfl rfl rfl rfl ⟨rfl, rfl, rfl, rfl, rfl⟩ rfl rfl rfl rfl rfl (by kernel_rfl) Try.func8 (by kernel_rfl)
    (of_decide_eq_true (by kernel_rfl)) (by unfold Func.isWrapper; first | (rw [if_pos (by decide +kernel)]; kernel_rfl) | (rw [if_neg (by decide +kernel)]; exact ⟨rfl, rfl⟩))
    (fun os started H enc _ => bucketNone_lifted os started H enc)

theorem bucketNone_proved : Rows.BucketNoneSaid := bucketNone_over
end Go.Proofs.Ytnhanldefebjbaa

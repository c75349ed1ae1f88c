/-
  AccountNone: an account that is not there, or that no call made, has no room, and nothing taken. For every number. No condition.
-/
import Derived.Test.YtnhanldefebjbaaFrame
import Derived.Test.YtnhanldefebjbaaAccount
namespace Go.Proofs.Ytnhanldefebjbaa
open Go Go.RowKit Go.ChangeShapes Go.WideShapes Go.ChangeAt

set_option maxHeartbeats 400000 in
theorem aawake_c (w : World) : Calls Try.prog 14 #[] w fun e w' => e = .returned (.bool true) ∧ Upd [] w w' := by
  have e0 : moveErr 5 3 13 = 0 := by decide
  have e1 : moveErr 2 3 13 = 13 := by decide
  refine post fun R hR => ?_
  go_enter Try.func14, Try.ntmps14
  go_wp2_with (fail)
  refine Calls.mono (anew_c _ _) ?_
  rintro e w1 ⟨rfl, hu1, hh1⟩
  have hb1 : AcAt w1 w.heap.size 0 #[i64 5, i64 0] 40 5 0 := ⟨hh1, rfl, rfl⟩
  go_wp2_with (fail)
  refine Calls.mono (atake_c hb1 3 (by omega) (by omega)) ?_
  rintro e w2 ⟨rfl, hu2, hh2⟩
  have hb2 : AcAt w2 w.heap.size 0 #[i64 5, i64 3] 40 5 3 := ⟨hh2, rfl, rfl⟩
  go_wp2_with (fail)
  refine Calls.mono (atake_c hb2 3 (by omega) (by omega)) ?_
  rintro e w3 ⟨rfl, hu3, hh3⟩
  have hb3 : AcAt w3 w.heap.size 0 #[i64 5, i64 3] 40 5 3 := ⟨hh3, rfl, rfl⟩
  go_wp2_with (fail)
  refine Calls.mono (taken_c hb3) ?_
  rintro e w4 ⟨rfl, hu4⟩
  go_wp2_with (fail)
  refine hR.out _ _ ⟨rfl, ?_⟩
  exact (hu1.trans (hu2.trans' hu3) (by simp)).trans hu4 (by simp)

theorem aNilTake_c (n : Int) (w : World) : Calls Try.prog 17 #[.pointer none, i64 n] w fun e w' => e = .returned (i64 (moveErr 0 n 13)) ∧ Upd [] w w' := by
  by_cases h1 : n < 0
  · have e0 : moveErr 0 n 13 = 1 := by unfold moveErr; rw [if_pos h1]
    have E0 := Lib.hid e0
    clear e0
    refine post fun R hR => ?_
    go_enter Try.func17, Try.ntmps17
    go_wp2
    exact hR.out _ _ ⟨ret_i E0.out.symm, Upd.refl _ _⟩
  · by_cases h2 : 0 < n
    · have e0 : moveErr 0 n 13 = 13 := by unfold moveErr; rw [if_neg h1, if_pos h2]
      have E0 := Lib.hid e0
      clear e0
      refine post fun R hR => ?_
      go_enter Try.func17, Try.ntmps17
      go_wp2
      exact hR.out _ _ ⟨ret_i E0.out.symm, Upd.refl _ _⟩
    · have e0 : moveErr 0 n 13 = 0 := by unfold moveErr; rw [if_neg h1, if_neg h2]
      have E0 := Lib.hid e0
      clear e0
      refine post fun R hR => ?_
      go_enter Try.func17, Try.ntmps17
      go_wp2
      exact hR.out _ _ ⟨ret_i E0.out.symm, Upd.refl _ _⟩

theorem aNilGive_c (n : Int) (w : World) : Calls Try.prog 19 #[.pointer none, i64 n] w fun e w' => e = .returned (i64 (moveErr 0 n 1)) ∧ Upd [] w w' := by
  by_cases h1 : n < 0
  · have e0 : moveErr 0 n 1 = 1 := by unfold moveErr; rw [if_pos h1]
    have E0 := Lib.hid e0
    clear e0
    refine post fun R hR => ?_
    go_enter Try.func19, Try.ntmps19
    go_wp2
    exact hR.out _ _ ⟨ret_i E0.out.symm, Upd.refl _ _⟩
  · by_cases h2 : 0 < n
    · have e0 : moveErr 0 n 1 = 1 := by unfold moveErr; rw [if_neg h1, if_pos h2]
      have E0 := Lib.hid e0
      clear e0
      refine post fun R hR => ?_
      go_enter Try.func19, Try.ntmps19
      go_wp2
      exact hR.out _ _ ⟨ret_i E0.out.symm, Upd.refl _ _⟩
    · have e0 : moveErr 0 n 1 = 0 := by unfold moveErr; rw [if_neg h1, if_neg h2]
      have E0 := Lib.hid e0
      clear e0
      refine post fun R hR => ?_
      go_enter Try.func19, Try.ntmps19
      go_wp2
      exact hR.out _ _ ⟨ret_i E0.out.symm, Upd.refl _ _⟩

set_option maxHeartbeats 400000 in
theorem anone_c (n x y : Int) (hx : moveErr 0 n 13 = x) (hy : moveErr 0 n 1 = y) (w : World)
    (hcase : (0 < n ∧ x = 13 ∧ y = 1) ∨ (n < 0 ∧ x = 1 ∧ y = 1) ∨ (0 ≤ n ∧ n ≤ 0 ∧ x = 0 ∧ y = 0)) : Calls Try.prog 5 #[i64 n] w fun e w' => e = .returned (.bool true) ∧ Upd [] w w' := by
  have hb0 : AcAt (w.alloc (.cells #[i64 0, i64 0] 40)) w.heap.size 0 #[i64 0, i64 0] 40 0 0 := ⟨heap_alloc_new _ _, rfl, rfl⟩
  have HX := Lib.hid hx
  have HY := Lib.hid hy
  have HB := Lib.hid hb0
  clear hx hb0 hy
  rcases hcase with ⟨h1, h', h''⟩ | ⟨h1, h', h''⟩ | ⟨h1, h2, h', h''⟩
  all_goals
    subst h'
    subst h''
    refine post fun R hR => ?_
    go_enter Try.func5, Try.ntmps5
    go_wp2_with (fail)
    refine Calls.mono (asetNil_c _ _) ?_
    rintro e w1 ⟨rfl, rfl⟩
    go_wp2_with (fail)
    refine Calls.mono (aNilTake_c _ _) ?_
    rintro e w1 ⟨rfl, hu1⟩
    rw [HX.out]
    go_wp2_with (fail)
    refine Calls.mono (aNilGive_c _ _) ?_
    rintro e w2 ⟨rfl, hu2⟩
    rw [HY.out]
    go_wp2_with (fail)
    refine Calls.mono (takenNil_c _) ?_
    rintro e w3 ⟨rfl, hu3⟩
    go_wp2_with (fail)
    refine Calls.mono (roomNil_c _) ?_
    rintro e w4 ⟨rfl, hu4⟩
    have hu := hu1.trans' (hu2.trans' (hu3.trans' hu4))
    have hb4 : AcAt w4 w.heap.size 0 #[i64 0, i64 0] 40 0 0 := ⟨hu.keep0 HB.out.heap, rfl, rfl⟩
    go_wp2_with (fail)
    refine Calls.mono (atake_c hb4 n (by omega) (by omega)) ?_
    rintro e w5 ⟨rfl, hu5, hh5⟩
    rw [show max ((0 : Int) - 0) 0 = 0 from rfl, HX.out] at hh5 ⊢
    have hb5 : AcAt w5 w.heap.size 0 #[i64 0, i64 0] 40 0 0 := ⟨hh5.trans (by split; all_goals first | rfl | omega | (obtain rfl : n = 0 := (by omega); rfl)), rfl, rfl⟩
    go_wp2_with (fail)
    refine Calls.mono (agive_c hb5 n (by omega)) ?_
    rintro e w6 ⟨rfl, hu6, hh6⟩
    rw [HY.out] at hh6 ⊢
    have hb6 : AcAt w6 w.heap.size 0 #[i64 0, i64 0] 40 0 0 := ⟨hh6.trans (by split; all_goals first | rfl | omega | (obtain rfl : n = 0 := (by omega); rfl)), rfl, rfl⟩
    go_wp2_with (fail)
    refine Calls.mono (taken_c hb6) ?_
    rintro e w7 ⟨rfl, hu7⟩
    have hb7 : AcAt w7 w.heap.size 0 #[i64 0, i64 0] 40 0 0 := ⟨hu7.keep0 hb6.heap, rfl, rfl⟩
    go_wp2_with (fail)
    refine Calls.mono (room_c hb7 (by omega) (by omega)) ?_
    rintro e w8 ⟨rfl, hu8⟩
    go_wp2_with (fail)
    refine Calls.mono (aawake_c _) ?_
    rintro e w9 ⟨rfl, hu9⟩
    go_wp2_with (fail)
    refine hR.out _ _ ⟨rfl, ?_⟩
    have k := (hu5.trans' hu6).trans ((hu7.trans' (hu8.trans' hu9))) (by simp)
    exact Upd.trans (((Upd.refl [] w).alloc _).trans hu (by simp)) k (by simp)

theorem accountNone_walk {H : Type} {enc : TypeId × Value → H} {W : World} {base : Nat} {args : Array Value} {ds gs : List (DataW H)} {before : List MemPlace}
    (hval : ∀ (j : Nat) t v, Try.f5.params[j]? = some t → args[j]? = some v → Value.okWide Try.prog W .any base t v)
    (hW : DataW.Whole enc Try.prog Try.f5.params.toList [] false W args.toList ds gs before) : Trues 5 args W := by
  obtain ⟨p, q, hA, -, rfl, -, -⟩ := hW
  rw [Try.params5] at hA hval
  obtain ⟨v0, d0, rfl, rfl, h0⟩ := trodAll_one hA
  obtain ⟨n, rfl, rfl, rfl, wn⟩ := open_int Try.underlying3 (hval 0 3 v0 rfl rfl) h0
  rcases Int.lt_trichotomy n 0 with h | h | h
  · exact anone_c n 1 1 (by unfold moveErr; rw [if_pos h]) (by unfold moveErr; rw [if_pos h]) W (.inr (.inl ⟨h, rfl, rfl⟩))
  · exact anone_c n 0 0 (by subst h; rfl) (by subst h; rfl) W (.inr (.inr ⟨by omega, by omega, rfl, rfl⟩))
  · exact anone_c n 13 1 (by unfold moveErr; rw [if_neg (by omega), if_pos h]) (by unfold moveErr; rw [if_neg (by omega), if_pos h]) W (.inl ⟨h, rfl, rfl⟩)

set_option maxRecDepth 100000 in
theorem accountNone_lifted (os : Os) (started : os.Started) (H : Type) (enc : TypeId × Value → H) :
    ReturnsInHanded {} Try.checked os 5 .any (Rows.accountNoneSpec.pre6 enc Try.prog Try.f5 Rows.accountNoneRow.domain false) (Rows.accountNoneSpec.post enc Try.prog Try.f5 false true false false) := by
  refine returnsInHanded_of_change (C := Try.checked) own started (by kernel_rfl) Try.func5
    (ChangeSpec.witness6 (enc := enc) (C := Try.checked) false ⟨#[], #[.int .i64 0], []⟩ 8 (by kernel_rfl) (by kernel_rfl) (by kernel_rfl) (by kernel_rfl)) ?_
  intro W base args ds gs before hval hW hcnd _
  refine Calls.mono (accountNone_walk hval hW) fun e W' ⟨he, hu⟩ => ?_
  exact ⟨_, he, law_post rfl rfl (by kernel_rfl) hW (fun ds h => by match ds, h with | [_], _ => rfl) hu⟩

theorem accountNone_over : Rows.accountNoneRow.holds Try.pinned (OpenSpec.ofChange Rows.accountNoneSpec) :=
  OpenClaim.holds_of_wide 5 Try.f5 rfl rfl rfl rfl rfl rfl rfl ⟨rfl, rfl, rfl, rfl, rfl⟩ rfl rfl rfl rfl rfl (by kernel_rfl) Try.func5 (by kernel_rfl)
    (of_decide_eq_true (by kernel_rfl)) (by unfold Func.isWrapper; first | (rw [if_pos (by decide +kernel)]; kernel_rfl) | (rw [if_neg (by decide +kernel)]; exact ⟨rfl, rfl⟩))
    (fun os started H enc _ => accountNone_lifted os started H enc)

theorem accountNone_proved : Rows.AccountNoneSaid := accountNone_over
end Go.Proofs.Ytnhanldefebjbaa

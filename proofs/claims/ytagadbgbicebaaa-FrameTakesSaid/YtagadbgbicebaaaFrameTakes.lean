/-
  FrameTakes: which head, and which frame, any bytes begin with, or why with none. For every string. No condition.
-/
import Derived.Test.YtagadbgbicebaaaOpen
import Derived.Test.YtagadbgbicebaaaFrmPut
namespace Go.Proofs.Ytagadbgbicebaaa
open Go Go.RowKit Go.ChangeShapes Go.WideShapes Go.ChangeAt
open Go.ChangeMaps (open_string shut_string)

theorem hd_of (s : ByteArray) (h : 4 ≤ s.size) : ∃ b0 b1 b2 b3, Hd s b0 b1 b2 b3 := ⟨_, _, _, _, ⟨h, rfl, rfl, rfl, rfl⟩⟩

set_option maxRecDepth 100000 in
set_option maxHeartbeats 1000000 in
/-- no length: the head is wrong, or too short -/
theorem ftakesA (s S : ByteArray) (e K F : Int) (w : World)
    (p1 : ∀ w, Calls Try.prog 20 #[.string s] w fun r w' => r = .returned (.tuple #[frV K F S, i64 0, i64 e]) ∧ Upd [] w w')
    (p2 : ∀ w, Calls Try.prog 21 #[.string s] w fun r w' => r = .returned (.tuple #[frV K F S, i64 (-1), i64 e]) ∧ Upd [] w w')
    (p3 : ∀ w, Calls Try.prog 22 #[.string s] w fun r w' => r = .returned (.tuple #[i64 0, i64 0, i64 0, i64 e]) ∧ Upd [] w w') :
    Trues 4 #[.string s] w := by
  unfold Trues
  have P1 := Lib.hid p1
  have P2 := Lib.hid p2
  have P3 := Lib.hid p3
  clear p1 p2 p3
  refine post fun R hR => ?_
  go_enter Try.func4, Try.ntmps4
  go_wp2_with (fail)
  refine Calls.mono (P1.out _) ?_
  rintro e w1 ⟨rfl, hu1⟩
  have a1 := heap_alloc_new w1 (.cells #[i64 K, i64 F, .string S] 23)
  go_wp2_with (fail)
  refine Calls.mono (P2.out _) ?_
  rintro e w2 ⟨rfl, hu2⟩
  have a2 := heap_alloc_old (hu2.keep0 a1) (.cells #[i64 K, i64 F, .string S] 23)
  have b2 := heap_alloc_new w2 (.cells #[i64 K, i64 F, .string S] 23)
  clear a1
  go_wp2_with (fail)
  refine Calls.mono (P3.out _) ?_
  rintro e w3 ⟨rfl, hu3⟩
  obtain ⟨c0, c1, c2, -⟩ := cells3 (hu3.keep0 a2)
  obtain ⟨d0, d1, d2, -⟩ := cells3 (hu3.keep0 b2)
  clear a2 b2
  go_wp2_with (fail)
  refine Calls.mono (fawake_c _) ?_
  rintro e w4 ⟨rfl, hu4⟩
  go_wp2_with fail
  exact hR.out _ _ ⟨rfl, ((hu1.alloc _).trans' hu2).trans' (((Upd.refl _ _).alloc _).trans' (hu3.trans' hu4))⟩

set_option maxRecDepth 100000 in
set_option maxHeartbeats 1000000 in
/-- a length, but too few bytes -/
theorem ftakesB (s S : ByteArray) (K F : Int) (n : Nat) (b0 b1 : UInt8) (w : World)
    (hb : 1 < s.size) (e0 : s[0]'(by omega) = b0) (e1 : s[1] = b1) (_hn : n ≤ 1024)
    (p1 : ∀ w, Calls Try.prog 20 #[.string s] w fun r w' => r = .returned (.tuple #[frV K F S, i64 0, i64 2]) ∧ Upd [] w w')
    (p2 : ∀ w, Calls Try.prog 21 #[.string s] w fun r w' => r = .returned (.tuple #[frV K F S, i64 n, i64 2]) ∧ Upd [] w w')
    (p3 : ∀ w, Calls Try.prog 22 #[.string s] w fun r w' => r = .returned (.tuple #[i64 b0.toNat, i64 b1.toNat, i64 n, i64 0]) ∧ Upd [] w w') :
    Trues 4 #[.string s] w := by
  unfold Trues
  have q0 : (0 : Int) < s.size := by omega
  have q1 : (1 : Int) < s.size := by omega
  have q2 : 0 < s.size := by omega
  have r0 := b0.toNat_lt
  have r1 := b1.toNat_lt
  have v0 : wrap64 (b0.toNat : Int) = b0.toNat := IntWalk.wrap64_in _ (by omega)
  have v1 : wrap64 (b1.toNat : Int) = b1.toNat := IntWalk.wrap64_in _ (by omega)
  have P1 := Lib.hid p1
  have P2 := Lib.hid p2
  have P3 := Lib.hid p3
  clear p1 p2 p3
  refine post fun R hR => ?_
  go_enter Try.func4, Try.ntmps4
  go_wp2_with (fail)
  refine Calls.mono (P1.out _) ?_
  rintro e w1 ⟨rfl, hu1⟩
  have a1 := heap_alloc_new w1 (.cells #[i64 K, i64 F, .string S] 23)
  go_wp2_with (fail)
  refine Calls.mono (P2.out _) ?_
  rintro e w2 ⟨rfl, hu2⟩
  have a2 := heap_alloc_old (hu2.keep0 a1) (.cells #[i64 K, i64 F, .string S] 23)
  have b2 := heap_alloc_new w2 (.cells #[i64 K, i64 F, .string S] 23)
  clear a1
  go_wp2_with (fail)
  refine Calls.mono (P3.out _) ?_
  rintro e w3 ⟨rfl, hu3⟩
  obtain ⟨c0, c1, c2, -⟩ := cells3 (hu3.keep0 a2)
  obtain ⟨d0, d1, d2, -⟩ := cells3 (hu3.keep0 b2)
  clear a2 b2
  go_wp2_with (fail)
  refine Calls.mono (fawake_c _) ?_
  rintro e w4 ⟨rfl, hu4⟩
  go_wp2_with fail
  exact hR.out _ _ ⟨rfl, ((hu1.alloc _).trans' hu2).trans' (((Upd.refl _ _).alloc _).trans' (hu3.trans' hu4))⟩

set_option maxRecDepth 100000 in
set_option maxHeartbeats 1000000 in
/-- a frame -/
theorem ftakesC (s S : ByteArray) (K F : Int) (n : Nat) (b0 b1 : UInt8) (w : World)
    (hb : 1 < s.size) (e0 : s[0]'(by omega) = b0) (e1 : s[1] = b1) (_hn : n ≤ 1024)
    (p1 : ∀ w, Calls Try.prog 20 #[.string s] w fun r w' => r = .returned (.tuple #[frV K F S, i64 (4 + (n : Int)), i64 0]) ∧ Upd [] w w')
    (p2 : ∀ w, Calls Try.prog 21 #[.string s] w fun r w' => r = .returned (.tuple #[frV K F S, i64 n, i64 0]) ∧ Upd [] w w')
    (p3 : ∀ w, Calls Try.prog 22 #[.string s] w fun r w' => r = .returned (.tuple #[i64 b0.toNat, i64 b1.toNat, i64 n, i64 0]) ∧ Upd [] w w') :
    Trues 4 #[.string s] w := by
  unfold Trues
  have q0 : (0 : Int) < s.size := by omega
  have q1 : (1 : Int) < s.size := by omega
  have q2 : 0 < s.size := by omega
  have r0 := b0.toNat_lt
  have r1 := b1.toNat_lt
  have v0 : wrap64 (b0.toNat : Int) = b0.toNat := IntWalk.wrap64_in _ (by omega)
  have v1 : wrap64 (b1.toNat : Int) = b1.toNat := IntWalk.wrap64_in _ (by omega)
  have P1 := Lib.hid p1
  have P2 := Lib.hid p2
  have P3 := Lib.hid p3
  clear p1 p2 p3
  refine post fun R hR => ?_
  go_enter Try.func4, Try.ntmps4
  go_wp2_with (fail)
  refine Calls.mono (P1.out _) ?_
  rintro e w1 ⟨rfl, hu1⟩
  have a1 := heap_alloc_new w1 (.cells #[i64 K, i64 F, .string S] 23)
  go_wp2_with (fail)
  refine Calls.mono (P2.out _) ?_
  rintro e w2 ⟨rfl, hu2⟩
  have a2 := heap_alloc_old (hu2.keep0 a1) (.cells #[i64 K, i64 F, .string S] 23)
  have b2 := heap_alloc_new w2 (.cells #[i64 K, i64 F, .string S] 23)
  clear a1
  go_wp2_with (fail)
  refine Calls.mono (P3.out _) ?_
  rintro e w3 ⟨rfl, hu3⟩
  obtain ⟨c0, c1, c2, -⟩ := cells3 (hu3.keep0 a2)
  obtain ⟨d0, d1, d2, -⟩ := cells3 (hu3.keep0 b2)
  clear a2 b2
  go_wp2_with (fail)
  refine Calls.mono (fawake_c _) ?_
  rintro e w4 ⟨rfl, hu4⟩
  go_wp2_with fail
  exact hR.out _ _ ⟨rfl, ((hu1.alloc _).trans' hu2).trans' (((Upd.refl _ _).alloc _).trans' (hu3.trans' hu4))⟩

theorem ftakes_c (s : ByteArray) (w : World) (hm : s.size ≤ maxLen) : Trues 4 #[.string s] w := by
  by_cases hs : s.size < 4
  · exact ftakesA s ⟨#[]⟩ 2 0 0 w (fun w => take_short s w hs) (fun w => rtake_short s w hs) (fun w => head_short s w hs)
  · obtain ⟨b0, b1, b2, b3, h⟩ := hd_of s (by omega)
    by_cases h0 : hdErr b0 b2 b3 = 0
    · have hn : b2.toNat * 256 + b3.toNat ≤ 1024 := by
        rcases hdErr_cases b0 b2 b3 with ⟨_, _, hn⟩ | ⟨hx, _⟩ | ⟨hx, _⟩
        · exact hn
        · omega
        · omega
      have ph := fun w => head_long s b0 b1 b2 b3 h w
      have pr := fun w => rtake_long s b0 b1 b2 b3 h w hm
      by_cases hx : tkErr s b0 b2 b3 = 0
      · have pt := fun w => take_ok s b0 b1 b2 b3 h w hm hx
        rw [h0, if_pos rfl] at ph
        rw [hx, if_pos rfl] at pr
        generalize hN : b2.toNat * 256 + b3.toNat = N at *
        have hN' : (b2.toNat : Int) * 256 + (b3.toNat : Int) = (N : Int) := by omega
        rw [hN'] at ph
        exact ftakesC s _ _ _ N b0 b1 w (by have := h.size; omega) h.e0 h.e1 hn pt pr ph
      · have ex : tkErr s b0 b2 b3 = 2 := by
          unfold tkErr at hx ⊢
          rw [if_pos h0] at hx ⊢
          split at hx
          · rw [if_pos ‹_›]
          · exact (hx rfl).elim
        have pt := fun w => take_err s b0 b1 b2 b3 h w hx
        rw [ex] at pt
        rw [h0, if_pos rfl] at ph
        rw [ex, if_neg (by omega), h0, if_pos rfl] at pr
        generalize hN : b2.toNat * 256 + b3.toNat = N at *
        have hN' : (b2.toNat : Int) * 256 + (b3.toNat : Int) = (N : Int) := by omega
        rw [hN'] at ph
        exact ftakesB s _ _ _ N b0 b1 w (by have := h.size; omega) h.e0 h.e1 hn pt pr ph
    · have ex : tkErr s b0 b2 b3 = hdErr b0 b2 b3 := by unfold tkErr; rw [if_neg h0]
      have ph := fun w => head_long s b0 b1 b2 b3 h w
      have pr := fun w => rtake_long s b0 b1 b2 b3 h w hm
      have pt := fun w => take_err s b0 b1 b2 b3 h w (by omega)
      rw [if_neg h0] at ph
      rw [if_neg (by omega), if_neg h0] at pr
      rw [ex] at pr pt
      exact ftakesA s _ _ _ _ w pt pr ph

set_option maxRecDepth 100000 in
theorem frameTakes_walk {H : Type} {enc : TypeId × Value → H} {W : World} {base : Nat} {args : Array Value} {ds gs : List (DataW H)} {before : List MemPlace}
    (hval : ∀ (j : Nat) t v, Try.f4.params[j]? = some t → args[j]? = some v → Value.okWide Try.prog W .any base t v)
    (hW : DataW.Whole enc Try.prog Try.f4.params.toList [] false W args.toList ds gs before) : Trues 4 args W := by
  obtain ⟨p, q, hA, -, rfl, -, -⟩ := hW
  rw [Try.params4] at hA hval
  obtain ⟨v0, d0, rfl, rfl, h0⟩ := trodAll_one hA
  obtain ⟨s, rfl, rfl, rfl, hs⟩ := open_string Try.underlying9 (hval 0 9 v0 rfl rfl) h0
  exact ftakes_c s W hs

set_option maxRecDepth 100000 in
theorem frameTakes_lifted (os : Os) (started : os.Started) (H : Type) (enc : TypeId × Value → H) :
    ReturnsInHanded {} Try.checked os 4 .any (Rows.frameTakesSpec.pre6 enc Try.prog Try.f4 Rows.frameTakesRow.domain false) (Rows.frameTakesSpec.post enc Try.prog Try.f4 false true false false) := by
  refine returnsInHanded_of_change (C := Try.checked) own started (by kernel_rfl) Try.func4
    (ChangeSpec.witness6 (enc := enc) (C := Try.checked) false ⟨#[], #[.string .empty], []⟩ 8 (by kernel_rfl) (by kernel_rfl) (by kernel_rfl) (by kernel_rfl)) ?_
  intro W base args ds gs before hval hW hcnd _
  refine Calls.mono (frameTakes_walk hval hW) fun e W' ⟨he, hu⟩ => ?_
  exact ⟨_, he, law_post rfl rfl (by kernel_rfl) hW (fun ds h => by match ds, h with | [_], _ => rfl) hu⟩

set_option maxRecDepth 100000 in
theorem frameTakes_over : Rows.frameTakesRow.holds Try.pinned (OpenSpec.ofChange Rows.frameTakesSpec) :=
  OpenClaim.holds_of_wide 4 Try.f4 rfl rfl rfl rfl rfl rfl rfl ⟨rfl, rfl, rfl, rfl, rfl⟩ rfl rfl rfl rfl rfl (by kernel_rfl) Try.func4 (by kernel_rfl)
    (of_decide_eq_true (by kernel_rfl)) (by unfold Func.isWrapper; first | (rw [if_pos (by decide +kernel)]; kernel_rfl) | (rw [if_neg (by decide +kernel)]; exact ⟨rfl, rfl⟩))
    (fun os started H enc _ => frameTakes_lifted os started H enc)

theorem frameTakes_proved : Rows.FrameTakesSaid := frameTakes_over
end Go.Proofs.Ytagadbgbicebaaa

/-
  FramePuts: which bytes any frame has, or why none, what any length costs, and which kinds wait. For every frame and number. No condition.
-/
import Derived.Test.YtagadbgbicebaaaOpen
import Derived.Test.YtagadbgbicebaaaFrmPut
namespace Go.Proofs.Ytagadbgbicebaaa
open Go Go.RowKit Go.ChangeShapes Go.WideShapes Go.ChangeAt

theorem flat_frame : flat Try.prog 5 23 = some [.int .i64, .int .i64, .string] := by kernel_rfl

set_option maxHeartbeats 1000000 in
theorem fputs_c (k f n : Int) (s : ByteArray) (w : World) (hm : s.size ≤ maxLen) : Trues 3 #[frV k f s, i64 n] w := by
  unfold Trues
  have p1 := fun w => put2_c k f s w hm
  have p2 := fun w => rput2_c k f s w hm
  generalize ptStr k f s = S at *
  generalize ptErr k f s.size = x at *
  have p3 := fun w => cost_c n w
  have p4 := fun w => rcost_c n w
  generalize costN n = c at *
  have p5 := fun w => asks_c n w
  have p6 := fun w => rasks_c n w
  generalize asksB n = a at *
  have P1 := Lib.hid p1
  have P2 := Lib.hid p2
  have P3 := Lib.hid p3
  have P4 := Lib.hid p4
  have P5 := Lib.hid p5
  have P6 := Lib.hid p6
  clear p1 p2 p3 p4 p5 p6 hm
  refine post fun R hR => ?_
  go_enter Try.func3, Try.ntmps3
  go_wp2_with (fail)
  refine Calls.mono (P1.out _) ?_
  rintro e w1 ⟨rfl, hu1⟩
  obtain ⟨c0, c1, c2, -⟩ := cells3 (hu1.keep0 (heap_alloc_new w (.cells #[i64 k, i64 f, .string s] 23)))
  go_wp2_with (fail)
  refine Calls.mono (P2.out _) ?_
  rintro e w2 ⟨rfl, hu2⟩
  go_wp2_with (fail)
  refine Calls.mono (P3.out _) ?_
  rintro e w3 ⟨rfl, rfl⟩
  go_wp2_with (fail)
  refine Calls.mono (P4.out _) ?_
  rintro e w3 ⟨rfl, rfl⟩
  go_wp2_with (fail)
  refine Calls.mono (P5.out _) ?_
  rintro e w3 ⟨rfl, rfl⟩
  go_wp2_with (fail)
  refine Calls.mono (P6.out _) ?_
  rintro e w3 ⟨rfl, rfl⟩
  go_wp2_with (fail)
  refine Calls.mono (fawake_c _) ?_
  rintro e w3 ⟨rfl, hu3⟩
  go_wp2_with fail
  exact hR.out _ _ ⟨rfl, ((Upd.refl _ _).alloc _).trans' (hu1.trans' (hu2.trans' hu3))⟩

set_option maxRecDepth 100000 in
theorem framePuts_walk {H : Type} {enc : TypeId × Value → H} {W : World} {base : Nat} {args : Array Value} {ds gs : List (DataW H)} {before : List MemPlace}
    (hval : ∀ (j : Nat) t v, Try.f3.params[j]? = some t → args[j]? = some v → Value.okWide Try.prog W .any base t v)
    (hW : DataW.Whole enc Try.prog Try.f3.params.toList [] false W args.toList ds gs before) : Trues 3 args W := by
  obtain ⟨p, q, hA, -, rfl, -, -⟩ := hW
  rw [Try.params3] at hA hval
  obtain ⟨v0, v1, d0, d1, p0, p1, rfl, rfl, rfl, h0, h1⟩ := trodAll_two hA
  obtain ⟨n, rfl, rfl, rfl, wn⟩ := open_int Try.underlying3 (hval 1 3 v1 rfl rfl) h1
  obtain ⟨vs, rfl, hk⟩ := open_struct Try.underlying23 flat_frame (hval 0 23 v0 rfl rfl) h0
  obtain ⟨a, r, rfl, ha, hk⟩ := hk.i64
  obtain ⟨b, r, rfl, hb, hk⟩ := hk.i64
  obtain ⟨s, r, rfl, hs, hk⟩ := hk.str
  obtain rfl := hk.none
  exact fputs_c a b n s W hs

set_option maxRecDepth 100000 in
theorem framePuts_lifted (os : Os) (started : os.Started) (H : Type) (enc : TypeId × Value → H) :
    ReturnsInHanded {} Try.checked os 3 .any (Rows.framePutsSpec.pre6 enc Try.prog Try.f3 Rows.framePutsRow.domain false) (Rows.framePutsSpec.post enc Try.prog Try.f3 false true false false) := by
  refine returnsInHanded_of_change (C := Try.checked) own started (by kernel_rfl) Try.func3
    (ChangeSpec.witness6 (enc := enc) (C := Try.checked) false ⟨#[], #[.agg #[.int .i64 0, .int .i64 0, .string .empty], .int .i64 0], []⟩ 8 (by kernel_rfl) (by kernel_rfl) (by kernel_rfl) (by kernel_rfl)) ?_
  intro W base args ds gs before hval hW hcnd _
  refine Calls.mono (framePuts_walk hval hW) fun e W' ⟨he, hu⟩ => ?_
  exact ⟨_, he, law_post rfl rfl (by kernel_rfl) hW (fun ds h => by match ds, h with | [_, _], _ => rfl) hu⟩

set_option maxRecDepth 100000 in
theorem framePuts_over : Rows.framePutsRow.holds Try.pinned (OpenSpec.ofChange Rows.framePutsSpec) :=
  OpenClaim.holds_of_wide 3 Try.f3 rfl rfl rfl rfl rfl rfl rfl ⟨rfl, rfl, rfl, rfl, rfl⟩ rfl rfl rfl rfl rfl (by kernel_rfl) Try.func3 (by kernel_rfl)
    (of_decide_eq_true (by kernel_rfl)) (by unfold Func.isWrapper; first | (rw [if_pos (by decide +kernel)]; kernel_rfl) | (rw [if_neg (by decide +kernel)]; exact ⟨rfl, rfl⟩))
    (fun os started H enc _ => framePuts_lifted os started H enc)

theorem framePuts_proved : Rows.FramePutsSaid := framePuts_over
end Go.Proofs.Ytagadbgbicebaaa

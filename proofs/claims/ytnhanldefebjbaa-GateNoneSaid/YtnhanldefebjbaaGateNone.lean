/-
  GateNone: a gate that is not there lets nobody in. For every kind, length and configuration. No condition.
-/
import Derived.Test.YtnhanldefebjbaaGateArg
namespace Go.Proofs.Ytnhanldefebjbaa
open Go Go.RowKit Go.ChangeShapes Go.WideShapes Go.ChangeAt

def gzero : Gt := ⟨0, 0, 0, 0, 0, 0, 0, 0, 0, false⟩
theorem gzero_adm (k n : Int) : gzero.admE k n ≠ 0 ∧ gzero.admO k = false := by
  unfold Gt.admE Gt.admO Gt.full Gt.base Gt.inE
  by_cases hk : k = 3
  · subst hk
    rw [show asksB 3 = true from rfl]
    simp [gzero, Gt.waitE]
  · have : (decide (k ≠ 3) && !gzero.oweB) = true := by simp [hk, gzero, Gt.oweB]
    rw [if_pos this, if_pos this]; simp

set_option maxRecDepth 100000 in
set_option maxHeartbeats 1000000 in
theorem gnone_c (k n : Int) (c : Cf) (w : World) : Trues 13 #[i64 k, i64 n, .agg c.cells] w := by
  unfold Trues
  have ok0 : gzero.ok := by constructor <;> decide
  have ha := fun w' b (hh : GtAt w' b gzero) => admit_c hh ok0 k n
  obtain ⟨hz1, hz2⟩ := gzero_adm k n
  rw [hz2] at ha
  have hq : (gzero.admE k n != 0) = true := by simpa using hz1
  generalize gzero.admE k n = X at *
  have HA := Lib.hid ha
  clear ha hz1 hz2
  refine post fun R hR => ?_
  go_enter Try.func13, Try.ntmps13
  go_wp2_with (fail)
  refine Calls.mono (gtickNil_c _) ?_
  rintro e w2 ⟨rfl, rfl⟩
  go_wp2_with (fail)
  refine Calls.mono (grestNil_c _ _) ?_
  rintro e w2 ⟨rfl, rfl⟩
  go_wp2_with fail
  refine Calls.mono (gsetNil_c c _) ?_
  rintro e w2 ⟨rfl, hu2⟩
  go_wp2_with fail
  refine Calls.mono (admitNil_c k n _) ?_
  rintro e w3 ⟨rfl, rfl⟩
  go_wp2_with fail
  have hz := heap_alloc_new w2 (.cells gzero.cells 92)
  refine Calls.mono (HA.out _ _ hz) ?_
  rintro e w3 ⟨rfl, hu3, hg3⟩
  go_wp2_with fail
  refine Calls.mono (oweNil_c _) ?_
  rintro e w4 ⟨rfl, rfl⟩
  go_wp2_with fail
  refine Calls.mono (gserveNil_c _ _) ?_
  rintro e w4 ⟨rfl, rfl⟩
  go_wp2_with fail
  refine Calls.mono (gdeliverNil_c _) ?_
  rintro e w4 ⟨rfl, rfl⟩
  go_wp2_with fail
  refine Calls.mono (gloadNil_c _) ?_
  rintro e w4 ⟨rfl, hu4⟩
  go_wp2_with fail
  refine Calls.mono (gawake_c _) ?_
  rintro e w5 ⟨rfl, hu5⟩
  go_wp2_with fail
  refine hR.out _ _ ⟨rfl, ?_⟩
  exact (((((Upd.refl _ _).alloc _).trans' hu2).alloc _).trans (S' := [w2.heap.size]) ((hu3.trans hu4 (by simp)).trans hu5 (by simp)) (by have := hu2.size; simp at this; simp; omega))

set_option maxRecDepth 100000 in
theorem gateNone_walk {H : Type} {enc : TypeId × Value → H} {W : World} {base : Nat} {args : Array Value} {ds gs : List (DataW H)} {before : List MemPlace}
    (hval : ∀ (j : Nat) t v, Try.f13.params[j]? = some t → args[j]? = some v → Value.okWide Try.prog W .any base t v)
    (hW : DataW.Whole enc Try.prog Try.f13.params.toList [] false W args.toList ds gs before) : Trues 13 args W := by
  obtain ⟨p, q, hA, -, rfl, -, -⟩ := hW
  rw [Try.params13] at hA hval
  obtain ⟨v0, v1, v2, d0, d1, d2, p0, p1, p2, rfl, rfl, rfl, h0, h1, h2⟩ := trodAll_three hA
  obtain ⟨k, rfl, rfl, rfl, wn⟩ := open_int Try.underlying3 (hval 0 3 v0 rfl rfl) h0
  obtain ⟨n, rfl, rfl, rfl, wm⟩ := open_int Try.underlying3 (hval 1 3 v1 rfl rfl) h1
  obtain ⟨vs, rfl, hvs⟩ := open_struct Try.underlying60 flat_conf (hval 2 60 v2 rfl rfl) h2
  obtain ⟨c, rfl⟩ := Cf.parse vs hvs
  exact gnone_c k n c W

set_option maxRecDepth 100000 in
theorem gateNone_lifted (os : Os) (started : os.Started) (H : Type) (enc : TypeId × Value → H) :
    ReturnsInHanded {} Try.checked os 13 .any (Rows.gateNoneSpec.pre6 enc Try.prog Try.f13 Rows.gateNoneRow.domain false) (Rows.gateNoneSpec.post enc Try.prog Try.f13 false true false false) := by
  refine returnsInHanded_of_change (C := Try.checked) own started (by kernel_rfl) Try.func13
    (ChangeSpec.witness6 (enc := enc) (C := Try.checked) false ⟨#[], #[.int .i64 0, .int .i64 0, .agg #[.int .i64 0, .int .i64 0, .int .i64 0, .int .i64 0, .int .i64 0, .int .i64 0, .int .i64 0, .int .i64 0, .int .i64 0]], []⟩ 8 (by kernel_rfl) (by kernel_rfl) (by kernel_rfl) (by kernel_rfl)) ?_
  intro W base args ds gs before hval hW hcnd _
  refine Calls.mono (gateNone_walk hval hW) fun e W' ⟨he, hu⟩ => ?_
  exact ⟨_, he, law_post rfl rfl (by kernel_rfl) hW (fun ds h => by match ds, h with | [_, _, _], _ => rfl) hu⟩

set_option maxRecDepth 100000 in
theorem gateNone_over : Rows.gateNoneRow.holds Try.pinned (OpenSpec.ofChange Rows.gateNoneSpec) :=
  OpenClaim.holds_of_wide 13 Try.f13 rfl rfl rfl rfl rfl rfl rfl ⟨rfl, rfl, rfl, rfl, rfl⟩ rfl rfl rfl rfl rfl (by kernel_rfl) Try.func13 (by kernel_rfl)
    (of_decide_eq_true (by kernel_rfl)) (by unfold Func.isWrapper; first | (rw [if_pos (by decide +kernel)]; kernel_rfl) | (rw [if_neg (by decide +kernel)]; exact ⟨rfl, rfl⟩))
    (fun os started H enc _ => gateNone_lifted os started H enc)

theorem gateNone_proved : Rows.GateNoneSaid := gateNone_over
end Go.Proofs.Ytnhanldefebjbaa

/-
  Chapter 25's example. No condition.
-/
import Derived.Test.YtabhdigannalgaaRingTurn
namespace Go.Proofs.Ytabhdigannalgaa
open Go Go.RowKit Go.Maps

/-- all blocks from B on -/
def ZB (B : Nat) : Nat → Prop := fun x => B ≤ x
theorem RingAt.zb' {w w0 : World} {B : Nat} {b : Nat} {ty : TypeId} {tl : List Value} {K : Nat} {r : Rg} (h : RingAt w (grow (ZB B) w0) b ty tl K r) (hb : B ≤ w0.heap.size) : RingAt w (ZB B) b ty tl K r :=
  h.more (fun _ q => q.elim id (Nat.le_trans hb)) (Nat.le_refl _)
theorem rty_ring : RTy 28 := ⟨by decide, by decide, by decide⟩

def awR : Rg := ((((Rg.new.set 1 1040).set 2 1040).push 1 16).push 2 16).push 1 16
theorem aw1 : awR.turn.n = 1 ∧ awR.turn.c = 16 ∧ awR.turn.ok = true := by decide +kernel
theorem aw2 : awR.turn.r.turn.n = 1 ∧ awR.turn.r.turn.c = 16 ∧ awR.turn.r.turn.ok = true := by decide +kernel
theorem aw3 : awR.turn.r.turn.r.turn.n = 2 ∧ awR.turn.r.turn.r.turn.c = 16 ∧ awR.turn.r.turn.r.turn.ok = true := by decide +kernel

theorem dnew2_c (w : World) : Calls Try.prog 15 #[] w fun e w' => ∃ b, e = .returned (.pointer (some ⟨b, 0, none⟩)) ∧ Upd [] w w' ∧ RingAt w' (ZB w.heap.size) b 28 [] 0 Rg.new := by
  refine Calls.mono (dnew_c w) ?_
  rintro e w' ⟨rfl, hu, hb⟩
  exact ⟨_, rfl, hu, ringAt_new rty_ring hb _ (Nat.le_refl _)⟩

set_option maxRecDepth 100000 in
set_option maxHeartbeats 2000000 in
theorem drrAwake_c (w : World) : Calls Try.prog 10 #[] w fun e w' => e = .returned (.bool true) ∧ Upd [] w w' := by
  refine post fun R hR => ?_
  go_enter Try.func10, Try.ntmps10
  go_wp2_with (fail)
  refine Calls.mono (dnew2_c _) ?_
  rintro e w1 ⟨b, rfl, hu, hA⟩
  go_wp2_with (fail)
  refine Calls.mono (ring_set_c hA (by omega) 1 1040) ?_
  rintro e w1 ⟨rfl, hp, hA2⟩
  have hs := hu.size
  replace hu := hu.transP hp (fun x q => q)
  replace hA := hA2.zb' hs
  clear hp hA2 hs
  go_wp2_with (fail)
  refine Calls.mono (ring_set_c hA (by omega) 2 1040) ?_
  rintro e w1 ⟨rfl, hp, hA2⟩
  have hs := hu.size
  replace hu := hu.transP hp (fun x q => q)
  replace hA := hA2.zb' hs
  clear hp hA2 hs
  go_wp2_with (fail)
  refine Calls.mono (ring_push_c hA (by omega) (n := 1) ⟨by decide, by decide⟩ 16) ?_
  rintro e w1 ⟨rfl, hp, hA2⟩
  have hs := hu.size
  replace hu := hu.transP hp (fun x q => q)
  replace hA := hA2.zb' hs
  clear hp hA2 hs
  go_wp2_with (fail)
  refine Calls.mono (ring_push_c hA (by omega) (n := 2) ⟨by decide, by decide⟩ 16) ?_
  rintro e w1 ⟨rfl, hp, hA2⟩
  have hs := hu.size
  replace hu := hu.transP hp (fun x q => q)
  replace hA := hA2.zb' hs
  clear hp hA2 hs
  go_wp2_with (fail)
  refine Calls.mono (ring_push_c hA (by omega) (n := 1) ⟨by decide, by decide⟩ 16) ?_
  rintro e w1 ⟨rfl, hp, hA2⟩
  have hs := hu.size
  replace hu := hu.transP hp (fun x q => q)
  replace hA := hA2.zb' hs
  clear hp hA2 hs
  change RingAt _ _ _ _ _ _ awR at hA
  have HA := Lib.hid hA
  have h1 := ring_turn_c hA (by omega)
  rw [aw1.1, aw1.2.1, aw1.2.2] at h1
  have H1 := Lib.hid h1
  clear hA h1
  go_wp2_with (fail)
  refine Calls.mono H1.out ?_
  rintro e w2 ⟨rfl, hp, hA2⟩
  have hs := hu.size
  replace hu := hu.transP hp (fun x q => q)
  have hA := hA2.zb' hs
  clear hp hA2 hs
  have h1 := ring_turn_c hA (by omega)
  rw [aw2.1, aw2.2.1, aw2.2.2] at h1
  have H2 := Lib.hid h1
  clear hA h1
  go_wp2_with (fail)
  refine Calls.mono H2.out ?_
  rintro e w3 ⟨rfl, hp, hA2⟩
  have hs := hu.size
  replace hu := hu.transP hp (fun x q => q)
  have hA := hA2.zb' hs
  clear hp hA2 hs
  have h1 := ring_turn_c hA (by omega)
  rw [aw3.1, aw3.2.1, aw3.2.2] at h1
  have H3 := Lib.hid h1
  clear hA h1
  go_wp2_with (fail)
  refine Calls.mono H3.out ?_
  rintro e w4 ⟨rfl, hp, hA2⟩
  replace hu := hu.transP hp (fun x q => q)
  go_wp2_with (fail)
  exact hR.out _ _ ⟨rfl, hu⟩
end Go.Proofs.Ytabhdigannalgaa

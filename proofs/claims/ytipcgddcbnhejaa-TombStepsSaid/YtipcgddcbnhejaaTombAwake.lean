/-
  Chapter 33's example. No condition.
-/
import Derived.Test.YtipcgddcbnhejaaTomb
namespace Go.Proofs.Ytipcgddcbnhejaa
open Go Go.RowKit

/-- a yard that is the call's own, and keeps l -/
def Yd (w0 w : World) (b : Nat) (l : List Int) : Prop := ∃ v, YdAt w b v w0.heap.size l ∧ w0.heap.size ≤ b ∧ Upd [] w0 w

theorem Yd.keep0 {w0 w w' : World} {b : Nat} {l : List Int} (h : Yd w0 w b l) (hu : Upd [] w w') : Yd w0 w' b l := by
  obtain ⟨v, h1, h2, h3⟩ := h
  exact ⟨v, h1.keep0 hu, h2, h3.trans' hu⟩

theorem put_y {w0 w : World} {b : Nat} {l : List Int} (h : Yd w0 w b l) (x : Int) :
    Calls Try.prog 23 #[.pointer (some ⟨b, 0, none⟩), .int .u64 x] w fun e w' => e = .returned (.bool (!hasB x l)) ∧ Yd w0 w' b (yput l x) := by
  obtain ⟨v, h1, h2, h3⟩ := h
  refine Calls.mono (yput_c h1 h3.size x) ?_
  rintro e w' ⟨v', rfl, h4, h5, h6⟩
  exact ⟨rfl, v', h4, h2, h3.trans h5 (by intro g hg; rcases List.mem_cons.1 hg with h | h; exact .inr (h ▸ h2); exact .inr (h1.sub.lt g h).1)⟩

theorem take_y {w0 w : World} {b : Nat} {l : List Int} (h : Yd w0 w b l) (x : Int) :
    Calls Try.prog 21 #[.pointer (some ⟨b, 0, none⟩), .int .u64 x] w fun e w' => e = .returned (.bool (hasB x l)) ∧ Yd w0 w' b (ytake l x) := by
  obtain ⟨v, h1, h2, h3⟩ := h
  refine Calls.mono (ytake_c h1 x) ?_
  rintro e w' ⟨v', rfl, h4, h5, h6⟩
  exact ⟨rfl, v', h4, h2, h3.trans h5 (by intro g hg; rcases List.mem_cons.1 hg with h | h; exact .inr (h ▸ h2); exact .inr (h1.sub.lt g h).1)⟩

theorem ids_y {w0 w : World} {b : Nat} {l : List Int} (h : Yd w0 w b l) :
    Calls Try.prog 25 #[.pointer (some ⟨b, 0, none⟩)] w fun e w' => ∃ ao cap, e = .returned (.slice ao l.length cap) ∧ Sub w' w.heap.size 22 1 (.slice ao l.length cap) l.length (evs l) ∧ Yd w0 w' b l ∧ Upd [] w w' := by
  obtain ⟨v, h1, h2, h3⟩ := h
  refine Calls.mono (yids_c h1) ?_
  rintro e w' ⟨v', rfl, h4, h5⟩
  obtain ⟨ao, cap, rfl, -, -⟩ := h4.form
  exact ⟨ao, cap, rfl, h4, ⟨v, h1.keep0 h5, h2, h3.trans' h5⟩, h5⟩

theorem hasB_nil (x : Int) : hasB x [] = false := by simp [hasB]
theorem hasB_self (x : Int) : hasB x [x] = true := by simp [hasB]
theorem hasB_ne {x y : Int} (h : ¬ x = y) : hasB x [y] = false := by simp [hasB, h]

set_option maxHeartbeats 1000000 in
theorem yawake_c (w : World) : Calls Try.prog 18 #[] w fun e w' => e = .returned (.bool true) ∧ Upd [] w w' := by
  have e1 : yput [] 3 = [3] := by decide
  have e2 : ytake [3] 3 = [] := by decide
  have b1 : hasB 3 [] = false := by decide
  have b2 : hasB 3 [3] = true := by decide
  have hp := fun b w' (h : Yd w w' b []) => put_y h 3
  have ht := fun b w' (h : Yd w w' b [3]) => take_y h 3
  have ht2 := fun b w' (h : Yd w w' b []) => take_y h 3
  rw [e1, b1] at hp
  rw [e2, b2] at ht
  rw [b1] at ht2
  have HP := Lib.hid hp
  have HT := Lib.hid ht
  have HT2 := Lib.hid ht2
  clear hp ht ht2 e1 e2 b1 b2
  refine post fun R hR => ?_
  go_enter Try.func18, Try.ntmps18
  go_wp2_with (fail)
  refine Calls.mono (ynew_c _) ?_
  rintro e w1 ⟨rfl, hu1, hy1⟩
  have h1 : Yd w w1 w.heap.size [] := ⟨_, hy1, Nat.le_refl _, hu1⟩
  clear hy1 hu1
  go_wp2_with (fail)
  refine Calls.mono (HP.out _ _ h1) ?_
  rintro e w2 ⟨rfl, h2⟩
  go_wp2_with (fail)
  refine Calls.mono (HT.out _ _ h2) ?_
  rintro e w3 ⟨rfl, h3⟩
  go_wp2_with (fail)
  refine Calls.mono (HT2.out _ _ h3) ?_
  rintro e w4 ⟨rfl, h4⟩
  go_wp2_with (fail)
  exact hR.out _ _ ⟨rfl, h4.choose_spec.2.2⟩

end Go.Proofs.Ytipcgddcbnhejaa

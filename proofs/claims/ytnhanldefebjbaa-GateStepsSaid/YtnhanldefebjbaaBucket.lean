/-
  The contracts of the bucket's functions: what each does to a bucket that lies in a block of memory, at any place of it. Conditions: the numbers are within the bounds that every bucket keeps.
-/
import Derived.Test.YtnhanldefebjbaaProg
import Derived.Test.YtnhanldefebjbaaBase
namespace Go.Proofs.Ytnhanldefebjbaa
open Go Go.RowKit

/-- a number held between 0 and another -/
def clamp (n most : Int) : Int := max 0 (min n most)

set_option maxHeartbeats 400000 in
theorem within_c (n lo hi : Int) (w : World) :
    Calls Try.prog 55 #[i64 n, i64 lo, i64 hi] w fun e w' => e = .returned (i64 (max lo (min n hi))) ∧ w = w' := by
  refine post fun R hR => ?_
  go_enter Try.func55, Try.ntmps55
  go_wp2
  all_goals (try go_returns)
  all_goals refine hR.out _ _ ⟨?_, rfl⟩
  all_goals simp [*]
  all_goals omega

/-- a bucket's three numbers, from a place of a block on -/
structure BkAt (w : World) (b off : Nat) (cs : Array Value) (ty : TypeId) (r u t : Int) : Prop where
  heap : w.heap[b]? = some (.cells cs ty (0, 0))
  c0 : cs[off]? = some (i64 r)
  c1 : cs[off + 1]? = some (i64 u)
  c2 : cs[off + 2]? = some (i64 t)

set_option maxHeartbeats 400000 in
theorem tick_c {w : World} {b off : Nat} {cs : Array Value} {ty : TypeId} {r u t : Int} (hb : BkAt w b off cs ty r u t) (hr : 0 ≤ r ∧ r ≤ 1048576) (ht : 0 ≤ t ∧ t ≤ 1048576) :
    Calls Try.prog 28 #[.pointer (some ⟨b, off, none⟩)] w fun e w' => e = .returned (.tuple #[]) ∧ Upd [b] w w' ∧
      w'.heap[b]? = some (.cells (cs.setIfInBounds (off + 2) (i64 (min (t + r) u))) ty (0, 0)) := by
  have c0 := (cellOf hb.heap off).trans hb.c0
  have c1 := (cellOf hb.heap (off + 1)).trans hb.c1
  have c2 := (cellOf hb.heap (off + 2)).trans hb.c2
  have fz := frzOf hb.heap (off + 2)
  refine post fun R hR => ?_
  go_enter Try.func28, Try.ntmps28
  go_wp2
  go_region
  all_goals go_wp2
  all_goals (try go_returns)
  all_goals refine hR.out _ _ ⟨rfl, ?_, ?_⟩
  · (repeat' (first | (with_reducible exact Upd.refl _ _) | (with_reducible assumption) | (with_reducible apply Upd.drew) | (with_reducible apply Upd.drewN) | (with_reducible apply Upd.alloc) | (with_reducible refine Upd.setCell ?_ (by simp) _) | (with_reducible refine Upd.setCell ?_ (by simp; omega) _)))
  · rw [show min (t + r) u = u by omega]; exact heap_setCell hb.heap _ _
  · (repeat' (first | (with_reducible exact Upd.refl _ _) | (with_reducible assumption) | (with_reducible apply Upd.drew) | (with_reducible apply Upd.drewN) | (with_reducible apply Upd.alloc) | (with_reducible refine Upd.setCell ?_ (by simp) _) | (with_reducible refine Upd.setCell ?_ (by simp; omega) _)))
  · rw [show min (t + r) u = t + r by omega]; exact heap_setCell hb.heap _ _

theorem tickNil_c (w : World) :
    Calls Try.prog 28 #[.pointer none] w fun e w' => e = .returned (.tuple #[]) ∧ w = w' := by
  refine post fun R hR => ?_
  go_enter Try.func28, Try.ntmps28
  go_wp2
  (try go_returns)
  exact hR.out _ _ ⟨rfl, rfl⟩

set_option maxHeartbeats 400000 in
theorem tokens_c {w : World} {b off : Nat} {cs : Array Value} {ty : TypeId} {r u t : Int} (hb : BkAt w b off cs ty r u t) :
    Calls Try.prog 33 #[.pointer (some ⟨b, off, none⟩)] w fun e w' => e = .returned (i64 t) ∧ w = w' := by
  have c2 := (cellOf hb.heap (off + 2)).trans hb.c2
  refine post fun R hR => ?_
  go_enter Try.func33, Try.ntmps33
  go_wp2
  (try go_returns)
  exact hR.out _ _ ⟨rfl, rfl⟩

theorem tokensNil_c (w : World) :
    Calls Try.prog 33 #[.pointer none] w fun e w' => e = .returned (i64 0) ∧ w = w' := by
  refine post fun R hR => ?_
  go_enter Try.func33, Try.ntmps33
  go_wp2
  (try go_returns)
  exact hR.out _ _ ⟨rfl, rfl⟩

/-- what a take tells -/
def takeErr (t n : Int) : Int := if n < 0 then 1 else if t < n then 14 else 0

set_option maxHeartbeats 400000 in
theorem take_c {w : World} {b off : Nat} {cs : Array Value} {ty : TypeId} {r u t : Int} (hb : BkAt w b off cs ty r u t) (n : Int) (ht : 0 ≤ t ∧ t ≤ 1048576) :
    Calls Try.prog 30 #[.pointer (some ⟨b, off, none⟩), i64 n] w fun e w' => e = .returned (i64 (takeErr t n)) ∧ Upd [b] w w' ∧
      w'.heap[b]? = some (.cells (if takeErr t n = 0 then cs.setIfInBounds (off + 2) (i64 (t - n)) else cs) ty (0, 0)) := by
  have c2 := (cellOf hb.heap (off + 2)).trans hb.c2
  have fz := frzOf hb.heap (off + 2)
  refine post fun R hR => ?_
  go_enter Try.func30, Try.ntmps30
  go_wp2_with (go_at_call 33; refine (tokens_c hb).mono ?_; rintro e w' ⟨rfl, rfl⟩)
  all_goals (try go_returns)
  · have e : takeErr t n = 1 := by unfold takeErr; rw [if_pos ‹_›]
    exact hR.out _ _ ⟨ret_i e.symm, Upd.refl _ _, by rw [e]; exact hb.heap⟩
  · have e : takeErr t n = 14 := by unfold takeErr; rw [if_neg (by omega), if_pos ‹_›]
    exact hR.out _ _ ⟨ret_i e.symm, Upd.refl _ _, by rw [e]; exact hb.heap⟩
  · have e : takeErr t n = 0 := by unfold takeErr; rw [if_neg (by omega), if_neg (by omega)]
    refine hR.out _ _ ⟨ret_i e.symm, ?_, by rw [e]; exact heap_setCell hb.heap _ _⟩
    (repeat' (first | (with_reducible exact Upd.refl _ _) | (with_reducible assumption) | (with_reducible apply Upd.drew) | (with_reducible apply Upd.drewN) | (with_reducible apply Upd.alloc) | (with_reducible refine Upd.setCell ?_ (by simp) _) | (with_reducible refine Upd.setCell ?_ (by simp; omega) _)))

theorem takeNil_c (n : Int) (w : World) :
    Calls Try.prog 30 #[.pointer none, i64 n] w fun e w' => e = .returned (i64 (takeErr 0 n)) ∧ w = w' := by
  refine post fun R hR => ?_
  go_enter Try.func30, Try.ntmps30
  go_wp2_with (go_at_call 33; refine (tokensNil_c _).mono ?_; rintro e w' ⟨rfl, rfl⟩)
  all_goals (try go_returns)
  all_goals exact hR.out _ _ ⟨ret_i (by unfold takeErr; repeat' split; all_goals omega), rfl⟩

set_option maxHeartbeats 400000 in
theorem set_c {w : World} {b off : Nat} {cs : Array Value} {ty : TypeId} {r u t : Int} (hb : BkAt w b off cs ty r u t) (n m : Int) :
    Calls Try.prog 31 #[.pointer (some ⟨b, off, none⟩), i64 n, i64 m] w fun e w' => e = .returned (.tuple #[]) ∧ Upd [b] w w' ∧
      w'.heap[b]? = some (.cells (((cs.setIfInBounds off (i64 (clamp n 1048576))).setIfInBounds (off + 1) (i64 (clamp m 1048576))).setIfInBounds (off + 2) (i64 (min t (clamp m 1048576)))) ty (0, 0)) := by
  have c0 := (cellOf hb.heap off).trans hb.c0
  have c1 := (cellOf hb.heap (off + 1)).trans hb.c1
  have c2 := (cellOf hb.heap (off + 2)).trans hb.c2
  have fz0 := frzOf hb.heap off
  have fz1 := frzOf hb.heap (off + 1)
  have fz2 := frzOf hb.heap (off + 2)
  refine post fun R hR => ?_
  go_enter Try.func31, Try.ntmps31
  go_wp2_with (go_at_call 55; refine (within_c _ _ _ _).mono ?_; rintro e w' ⟨rfl, rfl⟩)
  generalize hw1 : (w.setCell _ _).setCell _ _ = w1
  have hh : w1.heap[b]? = some (.cells ((cs.setIfInBounds off (i64 (clamp n 1048576))).setIfInBounds (off + 1) (i64 (clamp m 1048576))) ty (0, 0)) := by
    rw [← hw1]; exact heap_setCell (heap_setCell hb.heap _ _) _ _
  have hu : Upd [b] w w1 := by
    rw [← hw1]; (repeat' (first | (with_reducible exact Upd.refl _ _) | (with_reducible assumption) | (with_reducible apply Upd.drew) | (with_reducible apply Upd.drewN) | (with_reducible apply Upd.alloc) | (with_reducible refine Upd.setCell ?_ (by simp) _) | (with_reducible refine Upd.setCell ?_ (by simp; omega) _)))
  clear hw1 c0 c1 c2 fz0 fz1 fz2
  have d1 := (cellOf hh (off + 1)).trans (set_self (set_ne _ (by omega) hb.c1))
  have d2 := (cellOf hh (off + 2)).trans (set_ne _ (by omega) (set_ne _ (by omega) hb.c2))
  have hcl : 0 ≤ clamp m 1048576 := by unfold clamp; omega
  have fz2 := frzOf hh (off + 2)
  go_region
  all_goals go_wp2
  all_goals (try go_returns)
  all_goals refine hR.out _ _ ⟨rfl, ?_, ?_⟩
  · refine hu.trans' ?_
    (repeat' (first | (with_reducible exact Upd.refl _ _) | (with_reducible assumption) | (with_reducible apply Upd.drew) | (with_reducible apply Upd.drewN) | (with_reducible apply Upd.alloc) | (with_reducible refine Upd.setCell ?_ (by simp) _) | (with_reducible refine Upd.setCell ?_ (by simp; omega) _)))
  · rw [show min t (clamp m 1048576) = clamp m 1048576 by omega]; exact heap_setCell hh _ _
  · refine hu.trans' ?_
    (repeat' (first | (with_reducible exact Upd.refl _ _) | (with_reducible assumption) | (with_reducible apply Upd.drew) | (with_reducible apply Upd.drewN) | (with_reducible apply Upd.alloc) | (with_reducible refine Upd.setCell ?_ (by simp) _) | (with_reducible refine Upd.setCell ?_ (by simp; omega) _)))
  · rw [show min t (clamp m 1048576) = t by omega]; exact heap_setCell hh _ _

theorem setNil_c (n m : Int) (w : World) :
    Calls Try.prog 31 #[.pointer none, i64 n, i64 m] w fun e w' => e = .returned (.tuple #[]) ∧ w = w' := by
  refine post fun R hR => ?_
  go_enter Try.func31, Try.ntmps31
  go_wp2
  (try go_returns)
  exact hR.out _ _ ⟨rfl, rfl⟩

set_option maxHeartbeats 400000 in
theorem new_c (n m : Int) (w : World) :
    Calls Try.prog 26 #[i64 n, i64 m] w fun e w' => e = .returned (.pointer (some ⟨w.heap.size, 0, none⟩)) ∧ Upd [] w w' ∧
      w'.heap[w.heap.size]? = some (.cells #[i64 (clamp n 1048576), i64 (clamp m 1048576), i64 (clamp m 1048576)] 56 (0, 0)) := by
  refine post fun R hR => ?_
  go_enter Try.func26, Try.ntmps26
  have hb : BkAt (w.alloc (.cells #[i64 0, i64 0, i64 0] 56)) w.heap.size 0 #[i64 0, i64 0, i64 0] 56 0 0 0 := ⟨heap_alloc_new _ _, rfl, rfl, rfl⟩
  go_wp2_with (go_at_call 31; refine (set_c hb _ _).mono ?_; rintro e w2 ⟨rfl, hu, hh⟩; simp at hh; have c0 := cellOf hh 1; have c2 := cellOf hh 2; have fz := frzOf hh 2; simp at c0 c2)
  (try go_returns)
  refine hR.out _ _ ⟨rfl, ?_, heap_setCell hh _ _⟩
  refine Upd.trans ((Upd.refl _ _).alloc _) (S' := [w.heap.size]) (hu.trans' ?_) (by simp)
  (repeat' (first | (with_reducible exact Upd.refl _ _) | (with_reducible assumption) | (with_reducible apply Upd.drew) | (with_reducible apply Upd.drewN) | (with_reducible apply Upd.alloc) | (with_reducible refine Upd.setCell ?_ (by simp) _) | (with_reducible refine Upd.setCell ?_ (by simp; omega) _)))

/-- how many ticks it takes till there are tokens -/
def waitN (t r n : Int) : Int :=
  if clamp n 1099511627776 ≤ clamp t 1099511627776 then 0 else if clamp r 1099511627776 = 0 then -1 else
    (clamp n 1099511627776 - clamp t 1099511627776 + clamp r 1099511627776 - 1) / clamp r 1099511627776

set_option maxHeartbeats 400000 in
theorem wait_c (t r n : Int) (w : World) :
    Calls Try.prog 34 #[i64 t, i64 r, i64 n] w fun e w' => e = .returned (i64 (waitN t r n)) ∧ w = w' := by
  have within_f : ∀ (k : Int) (w : World), Calls Try.prog 55 #[i64 k, i64 0, i64 1099511627776] w
      fun e w' => ∃ x, e = .returned (i64 x) ∧ Hid (clamp k 1099511627776 = x) ∧ 0 ≤ x ∧ x ≤ 1099511627776 ∧ w = w' := fun k w =>
    (within_c k 0 1099511627776 w).mono fun _ _ ⟨h1, h2⟩ => ⟨_, h1, rfl, by omega, by omega, h2⟩
  refine post fun R hR => ?_
  go_enter Try.func34, Try.ntmps34
  have WF := Lib.hid within_f
  clear within_f
  go_wp2_with fail
  refine (WF.out _ _).mono ?_
  rintro e w' ⟨T, rfl, hT, hT0, hT1, rfl⟩
  go_wp2_with fail
  refine (WF.out _ _).mono ?_
  rintro e w' ⟨P, rfl, hP, hP0, hP1, rfl⟩
  go_wp2_with fail
  refine (WF.out _ _).mono ?_
  rintro e w' ⟨N, rfl, hN, hN0, hN1, rfl⟩
  clear WF
  by_cases h1 : N ≤ T
  · go_wp2
    exact hR.out _ _ ⟨ret_i (by unfold waitN; rw [hT.out, hN.out, if_pos h1]), rfl⟩
  · by_cases h2 : P = 0
    · go_wp2
      exact hR.out _ _ ⟨ret_i (by unfold waitN; rw [hT.out, hN.out, hP.out, if_neg (by omega), if_pos h2]), rfl⟩
    · go_wp2
      exact hR.out _ _ ⟨ret_i (by unfold waitN; rw [hT.out, hN.out, hP.out, if_neg (by omega), if_neg (by omega)]), rfl⟩
end Go.Proofs.Ytnhanldefebjbaa

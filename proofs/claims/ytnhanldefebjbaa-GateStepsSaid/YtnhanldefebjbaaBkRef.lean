/-
  The contracts of the document's bucket (concourseref23). Conditions: its numbers are within their bounds.
-/
import Derived.Test.YtnhanldefebjbaaProg
import Derived.Test.YtnhanldefebjbaaBucket
namespace Go.Proofs.Ytnhanldefebjbaa
open Go Go.RowKit

theorem rin_c (n m : Int) (w : World) (hm : 0 ≤ m) : Calls Try.prog 54 #[i64 n, i64 m] w fun e w' => e = .returned (i64 (clamp n m)) ∧ w = w' := by
  refine post fun R hR => ?_
  go_enter Try.func54, Try.ntmps54
  go_wp2
  all_goals exact hR.out _ _ ⟨ret_i (by unfold clamp; omega), rfl⟩

abbrev bkV (r u t : Int) : Value := .agg #[i64 r, i64 u, i64 t]

theorem rbnew_c (n m : Int) (w : World) : Calls Try.prog 27 #[i64 n, i64 m] w fun e w' => e = .returned (bkV (clamp n 1048576) (clamp m 1048576) (clamp m 1048576)) ∧ Upd [] w w' := by
  refine post fun R hR => ?_
  go_enter Try.func27, Try.ntmps27
  go_wp2_with (go_at_call 54; (with_reducible refine Calls.mono (rin_c _ _ _ (by omega)) ?_); rintro e w2 ⟨rfl, rfl⟩)
  all_goals (try go_returns)
  all_goals first | exact hR.out _ _ ⟨rfl, by (repeat' (first | (with_reducible exact Upd.refl _ _) | (with_reducible assumption) | (with_reducible apply Upd.drew) | (with_reducible apply Upd.drewN) | (with_reducible apply Upd.alloc) | (with_reducible refine Upd.setCell ?_ (by simp) _) | (with_reducible refine Upd.setCell ?_ (by simp; omega) _)))⟩ | skip

theorem rbtick_c (r u t : Int) (w : World) (hr : 0 ≤ r ∧ r ≤ 1048576) (hu : 0 ≤ u ∧ u ≤ 1048576) (ht : 0 ≤ t ∧ t ≤ 1048576) :
    Calls Try.prog 29 #[bkV r u t] w fun e w' => e = .returned (bkV r u (min (t + r) u)) ∧ Upd [] w w' := by
  have hin := fun w => rin_c (t + r) u w hu.1
  rw [show clamp (t + r) u = min (t + r) u from by unfold clamp; omega] at hin
  have HI := Lib.hid hin
  clear hin
  refine post fun R hR => ?_
  go_enter Try.func29, Try.ntmps29
  go_wp2_with (go_at_call 54; (with_reducible refine Calls.mono (HI.out _) ?_); rintro e w2 ⟨rfl, rfl⟩)
  all_goals (try go_returns)
  all_goals first | exact hR.out _ _ ⟨rfl, by (repeat' (first | (with_reducible exact Upd.refl _ _) | (with_reducible assumption) | (with_reducible apply Upd.drew) | (with_reducible apply Upd.drewN) | (with_reducible apply Upd.alloc) | (with_reducible refine Upd.setCell ?_ (by simp) _) | (with_reducible refine Upd.setCell ?_ (by simp; omega) _)))⟩ | skip

theorem rbset_c (r u t n m : Int) (w : World) (ht : 0 ≤ t ∧ t ≤ 1048576) :
    Calls Try.prog 32 #[bkV r u t, i64 n, i64 m] w fun e w' => e = .returned (bkV (clamp n 1048576) (clamp m 1048576) (min t (clamp m 1048576))) ∧ Upd [] w w' := by
  have hc : 0 ≤ clamp m 1048576 := by unfold clamp; omega
  have hin := fun w => rin_c t (clamp m 1048576) w hc
  rw [show clamp t (clamp m 1048576) = min t (clamp m 1048576) from by rw [show ∀ a b, clamp a b = max 0 (min a b) from fun _ _ => rfl]; omega] at hin
  have HI := Lib.hid hin
  clear hin
  refine post fun R hR => ?_
  go_enter Try.func32, Try.ntmps32
  go_wp2_with (fail)
  refine Calls.mono (rbnew_c n m _) ?_
  rintro e w2 ⟨rfl, hu⟩
  have b1 := hu.keep0 (heap_alloc_old (heap_alloc_new w (.cells #[i64 r, i64 u, i64 t] 46)) (.cells #[i64 0, i64 0, i64 0] 46))
  have b2 := hu.keep0 (heap_new2 w (.cells #[i64 r, i64 u, i64 t] 46) (.cells #[i64 0, i64 0, i64 0] 46))
  obtain ⟨c0, c1, c2, -⟩ := cells3 b1
  obtain ⟨d0, d1, d2, f0, f1, f2⟩ := cells3 b2
  have s1 : w.heap.size < w2.heap.size := lt_of_heap b1
  have s2 : w.heap.size + 1 < w2.heap.size := lt_of_heap b2
  go_wp2_with (go_at_call 54; (with_reducible refine Calls.mono (HI.out _) ?_); rintro e w3 ⟨rfl, rfl⟩)
  have b3 := heap_alloc_old (hset3_2 (v := i64 (min t (clamp m 1048576))) (hset3_1 (v := i64 (clamp m 1048576)) (hset3_0 (v := i64 (clamp n 1048576)) b2))) (.cells #[i64 (clamp n 1048576), i64 (clamp m 1048576), i64 (min t (clamp m 1048576))] 46)
  obtain ⟨g0, g1, g2, -⟩ := cells3 b3
  refine bodyPost_ret (v := bkV (clamp n 1048576) (clamp m 1048576) (min t (clamp m 1048576))) (by simp [results, Try.results32, go_sem, *]) rfl ?_
  refine hR.out _ _ ?_
  refine ⟨rfl, ?_⟩
  refine ((((Upd.refl [] w).alloc _).alloc _).trans' hu).trans (S' := [w.heap.size + 1]) ?_ (by simp)
  (repeat' (first | (with_reducible exact Upd.refl _ _) | (with_reducible assumption) | (with_reducible apply Upd.drew) | (with_reducible apply Upd.drewN) | (with_reducible apply Upd.alloc) | (with_reducible refine Upd.setCell ?_ (by simp) _) | (with_reducible refine Upd.setCell ?_ (by simp; omega) _)))
/-! A bucket that is a block of its own. -/
theorem btick2_c {w : World} {b : Nat} {ty : TypeId} {r u t : Int} (hb : w.heap[b]? = some (.cells #[i64 r, i64 u, i64 t] ty (0, 0))) (hr : 0 ≤ r ∧ r ≤ 1048576) (ht : 0 ≤ t ∧ t ≤ 1048576) :
    Calls Try.prog 28 #[.pointer (some ⟨b, 0, none⟩)] w fun e w' => e = .returned (.tuple #[]) ∧ Upd [b] w w' ∧
      w'.heap[b]? = some (.cells #[i64 r, i64 u, i64 (min (t + r) u)] ty (0, 0)) :=
  (tick_c (r := r) (u := u) (t := t) ⟨hb, rfl, rfl, rfl⟩ hr ht).mono fun _ _ ⟨h1, h2, h3⟩ => ⟨h1, h2, h3⟩
theorem btake2_c {w : World} {b : Nat} {ty : TypeId} {r u t : Int} (hb : w.heap[b]? = some (.cells #[i64 r, i64 u, i64 t] ty (0, 0))) (n : Int) (ht : 0 ≤ t ∧ t ≤ 1048576) :
    Calls Try.prog 30 #[.pointer (some ⟨b, 0, none⟩), i64 n] w fun e w' => e = .returned (i64 (takeErr t n)) ∧ Upd [b] w w' ∧
      w'.heap[b]? = some (.cells #[i64 r, i64 u, i64 (if takeErr t n = 0 then t - n else t)] ty (0, 0)) :=
  (take_c (r := r) (u := u) (t := t) ⟨hb, rfl, rfl, rfl⟩ n ht).mono fun _ _ ⟨h1, h2, h3⟩ => ⟨h1, h2, h3.trans (by split <;> rfl)⟩
theorem bset2_c {w : World} {b : Nat} {ty : TypeId} {r u t : Int} (hb : w.heap[b]? = some (.cells #[i64 r, i64 u, i64 t] ty (0, 0))) (n m : Int) :
    Calls Try.prog 31 #[.pointer (some ⟨b, 0, none⟩), i64 n, i64 m] w fun e w' => e = .returned (.tuple #[]) ∧ Upd [b] w w' ∧
      w'.heap[b]? = some (.cells #[i64 (clamp n 1048576), i64 (clamp m 1048576), i64 (min t (clamp m 1048576))] ty (0, 0)) :=
  (set_c (r := r) (u := u) (t := t) ⟨hb, rfl, rfl, rfl⟩ n m).mono fun _ _ ⟨h1, h2, h3⟩ => ⟨h1, h2, h3⟩
end Go.Proofs.Ytnhanldefebjbaa

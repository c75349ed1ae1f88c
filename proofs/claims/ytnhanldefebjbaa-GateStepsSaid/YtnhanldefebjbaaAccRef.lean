/-
  The contracts of the document's account (concourseref24). Conditions: its numbers are within their bounds.
-/
import Derived.Test.YtnhanldefebjbaaProg
import Derived.Test.YtnhanldefebjbaaAccount
namespace Go.Proofs.Ytnhanldefebjbaa
open Go Go.RowKit

/-- what is taken behind a move that told e -/
def movedBy (e t n : Int) : Int := if e = 0 then t + n else t

theorem take_bd {l t n : Int} (hl : 0 ≤ l ∧ l ≤ 1048576) (ht : 0 ≤ t ∧ t ≤ 1048576) : 0 ≤ movedBy (moveErr (max (l - t) 0) n 13) t n ∧ movedBy (moveErr (max (l - t) 0) n 13) t n ≤ 1048576 := by
  unfold movedBy moveErr; repeat' split
  all_goals omega
theorem give_bd {t n : Int} (ht : 0 ≤ t ∧ t ≤ 1048576) : 0 ≤ movedBy (moveErr t n 1) t (-n) ∧ movedBy (moveErr t n 1) t (-n) ≤ 1048576 := by
  unfold movedBy moveErr; repeat' split
  all_goals omega

/-- an account that is a block of its own -/
theorem atake2_c {w : World} {b : Nat} {ty : TypeId} {l t : Int} (hb : w.heap[b]? = some (.cells #[i64 l, i64 t] ty (0, 0))) (n : Int) (hl : 0 ≤ l ∧ l ≤ 1048576) (ht : 0 ≤ t ∧ t ≤ 1048576) :
    Calls Try.prog 17 #[.pointer (some ⟨b, 0, none⟩), i64 n] w fun e w' => e = .returned (i64 (moveErr (max (l - t) 0) n 13)) ∧ Upd [b] w w' ∧
      w'.heap[b]? = some (.cells #[i64 l, i64 (movedBy (moveErr (max (l - t) 0) n 13) t n)] ty (0, 0)) :=
  (atake_c ⟨hb, rfl, rfl⟩ n hl ht).mono fun _ _ ⟨h1, h2, h3⟩ => ⟨h1, h2, h3.trans (by unfold movedBy; split <;> rfl)⟩
theorem agive2_c {w : World} {b : Nat} {ty : TypeId} {l t : Int} (hb : w.heap[b]? = some (.cells #[i64 l, i64 t] ty (0, 0))) (n : Int) (ht : 0 ≤ t ∧ t ≤ 1048576) :
    Calls Try.prog 19 #[.pointer (some ⟨b, 0, none⟩), i64 n] w fun e w' => e = .returned (i64 (moveErr t n 1)) ∧ Upd [b] w w' ∧
      w'.heap[b]? = some (.cells #[i64 l, i64 (movedBy (moveErr t n 1) t (-n))] ty (0, 0)) :=
  (agive_c ⟨hb, rfl, rfl⟩ n ht).mono fun _ _ ⟨h1, h2, h3⟩ => ⟨h1, h2, h3.trans (by unfold movedBy; split <;> rfl)⟩
theorem aset2_c {w : World} {b : Nat} {ty : TypeId} {l t : Int} (hb : w.heap[b]? = some (.cells #[i64 l, i64 t] ty (0, 0))) (n : Int) :
    Calls Try.prog 21 #[.pointer (some ⟨b, 0, none⟩), i64 n] w fun e w' => e = .returned (.tuple #[]) ∧ Upd [b] w w' ∧
      w'.heap[b]? = some (.cells #[i64 (max 0 (min n 1048576)), i64 t] ty (0, 0)) :=
  (aset_c (l := l) (t := t) ⟨hb, rfl, rfl⟩ n).mono fun _ _ ⟨h1, h2, h3⟩ => ⟨h1, h2, h3⟩

theorem rlimit_c (n : Int) (w : World) : Calls Try.prog 16 #[i64 n] w fun e w' => e = .returned (i64 (max 0 (min n 1048576))) ∧ Upd [] w w' := by
  refine post fun R hR => ?_
  go_enter Try.func16, Try.ntmps16
  go_wp2
  all_goals exact hR.out _ _ ⟨ret_i (by omega), Upd.refl _ _⟩

theorem rroom_c (l t : Int) (w : World) (hl : 0 ≤ l ∧ l ≤ 1048576) (ht : 0 ≤ t ∧ t ≤ 1048576) :
    Calls Try.prog 24 #[.agg #[i64 l, i64 t]] w fun e w' => e = .returned (i64 (max (l - t) 0)) ∧ Upd [] w w' := by
  refine post fun R hR => ?_
  go_enter Try.func24, Try.ntmps24
  go_wp2
  all_goals exact hR.out _ _ ⟨ret_i (by omega), (Upd.refl _ _).alloc _⟩

theorem rtake_c (l t n : Int) (w : World) (hl : 0 ≤ l ∧ l ≤ 1048576) (ht : 0 ≤ t ∧ t ≤ 1048576) :
    Calls Try.prog 18 #[.agg #[i64 l, i64 t], i64 n] w fun e w' =>
      e = .returned (.tuple #[.agg #[i64 l, i64 (movedBy (moveErr (max (l - t) 0) n 13) t n)], i64 (moveErr (max (l - t) 0) n 13)]) ∧ Upd [] w w' := by
  have rr := fun w => rroom_c l t w hl ht
  have RR := Lib.hid rr
  clear rr
  by_cases h1 : n < 0
  · have e0 : moveErr (max (l - t) 0) n 13 = 1 := by unfold moveErr; rw [if_pos h1]
    rw [e0, show movedBy 1 t n = t from rfl]
    refine post fun R hR => ?_
    go_enter Try.func18, Try.ntmps18
    go_wp2_with (fail)
    refine bodyPost_ret (v := .tuple #[.agg #[i64 l, i64 t], i64 1]) (by simp [results, Try.results18, go_sem, *]) rfl ?_
    refine hR.out _ _ ?_
    exact ⟨rfl, ((Upd.refl _ _).alloc _).alloc _⟩
  · have HR : ∀ w2, Upd [] ((w.alloc (.cells #[i64 l, i64 t] 28)).alloc (.cells #[i64 0, i64 0] 28)) w2 →
        Upd [] w w2 ∧ w2.heap[w.heap.size]? = some (.cells #[i64 l, i64 t] 28 (0, 0)) ∧ w2.heap[w.heap.size + 1]? = some (.cells #[i64 0, i64 0] 28 (0, 0)) := fun w2 hu =>
      ⟨(((Upd.refl _ _).alloc _).alloc _).trans' hu, hu.keep0 (heap_alloc_old (heap_alloc_new _ _) _), hu.keep0 (heap_new2 _ _ _)⟩
    have HK := Lib.hid HR
    clear HR
    by_cases h2 : max (l - t) 0 < n
    · have e0 : moveErr (max (l - t) 0) n 13 = 13 := by unfold moveErr; rw [if_neg h1, if_pos h2]
      rw [e0, show movedBy 13 t n = t from rfl]
      refine post fun R hR => ?_
      go_enter Try.func18, Try.ntmps18
      go_wp2_with (fail)
      refine Calls.mono (RR.out _) ?_
      rintro e w2 ⟨rfl, hu⟩
      obtain ⟨hu2, hh1, hh2⟩ := HK.out _ hu
      obtain ⟨c0, c1, f0, f1⟩ := cells2 hh1
      obtain ⟨d0, d1, g0, g1⟩ := cells2 hh2
      go_wp2_with (fail)
      have hh3 := heap_setCell (heap_setCell hh2 0 (i64 l)) 1 (i64 t)
      obtain ⟨d2, d3, -⟩ := cells2 hh3
      refine bodyPost_ret (v := .tuple #[.agg #[i64 l, i64 t], i64 13]) (by simp [results, Try.results18, go_sem, *]) rfl ?_
      refine hR.out _ _ ?_
      exact ⟨rfl, hu2.trans (((Upd.refl _ _).setCell (S := [w.heap.size + 1]) (by simp) _).setCell (by simp) _) (by simp)⟩
    · have e0 : moveErr (max (l - t) 0) n 13 = 0 := by unfold moveErr; rw [if_neg h1, if_neg h2]
      rw [e0, show movedBy 0 t n = t + n from rfl]
      refine post fun R hR => ?_
      go_enter Try.func18, Try.ntmps18
      go_wp2_with (fail)
      refine Calls.mono (RR.out _) ?_
      rintro e w2 ⟨rfl, hu⟩
      obtain ⟨hu2, hh1, hh2⟩ := HK.out _ hu
      obtain ⟨c0, c1, f0, f1⟩ := cells2 hh1
      obtain ⟨d0, d1, g0, g1⟩ := cells2 hh2
      go_wp2_with (fail)
      have hh3 := heap_setCell (heap_setCell (heap_setCell_ne (c := w.heap.size) hh2 (by omega) 1 (i64 (t + n))) 0 (i64 l)) 1 (i64 (t + n))
      obtain ⟨d2, d3, -⟩ := cells2 hh3
      refine bodyPost_ret (v := .tuple #[.agg #[i64 l, i64 (t + n)], i64 0]) (by simp [results, Try.results18, go_sem, *]) rfl ?_
      refine hR.out _ _ ?_
      exact ⟨rfl, hu2.trans ((((Upd.refl _ _).setCell (S := [w.heap.size, w.heap.size + 1]) (by simp) _).setCell (by simp) _).setCell (by simp) _) (by simp)⟩

theorem rgive_c (l t n : Int) (w : World) (ht : 0 ≤ t ∧ t ≤ 1048576) :
    Calls Try.prog 20 #[.agg #[i64 l, i64 t], i64 n] w fun e w' =>
      e = .returned (.tuple #[.agg #[i64 l, i64 (movedBy (moveErr t n 1) t (-n))], i64 (moveErr t n 1)]) ∧ Upd [] w w' := by
  by_cases h1 : n < 0
  · have e0 : moveErr t n 1 = 1 := by unfold moveErr; rw [if_pos h1]
    rw [e0, show movedBy 1 t (-n) = t from rfl]
    refine post fun R hR => ?_
    go_enter Try.func20, Try.ntmps20
    go_wp2_with (fail)
    refine bodyPost_ret (v := .tuple #[.agg #[i64 l, i64 t], i64 1]) (by simp [results, Try.results20, go_sem, *]) rfl ?_
    refine hR.out _ _ ?_
    exact ⟨rfl, ((Upd.refl _ _).alloc _).alloc _⟩
  · by_cases h2 : t < n
    · have e0 : moveErr t n 1 = 1 := by unfold moveErr; rw [if_neg h1, if_pos h2]
      rw [e0, show movedBy 1 t (-n) = t from rfl]
      refine post fun R hR => ?_
      go_enter Try.func20, Try.ntmps20
      go_wp2_with (fail)
      refine bodyPost_ret (v := .tuple #[.agg #[i64 l, i64 t], i64 1]) (by simp [results, Try.results20, go_sem, *]) rfl ?_
      refine hR.out _ _ ?_
      exact ⟨rfl, ((Upd.refl _ _).alloc _).alloc _⟩
    · have e0 : moveErr t n 1 = 0 := by unfold moveErr; rw [if_neg h1, if_neg h2]
      rw [e0, show movedBy 0 t (-n) = t - n from rfl]
      refine post fun R hR => ?_
      go_enter Try.func20, Try.ntmps20
      go_wp2_with (fail)
      refine bodyPost_ret (v := .tuple #[.agg #[i64 l, i64 (t - n)], i64 0]) (by simp [results, Try.results20, go_sem, *]) rfl ?_
      refine hR.out _ _ ?_
      exact ⟨rfl, by (repeat' (first | (with_reducible exact Upd.refl _ _) | (with_reducible assumption) | (with_reducible apply Upd.drew) | (with_reducible apply Upd.drewN) | (with_reducible apply Upd.alloc) | (with_reducible refine Upd.setCell ?_ (by simp) _) | (with_reducible refine Upd.setCell ?_ (by simp; omega) _)))⟩
end Go.Proofs.Ytnhanldefebjbaa

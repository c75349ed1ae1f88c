/-
  The contracts of the account's functions: what each does to an account that lies in a block of memory, at any place of it. Conditions: the numbers are within the bounds that every account keeps.
-/
import Derived.Test.YtnhanldefebjbaaProg
import Derived.Test.YtnhanldefebjbaaBase
namespace Go.Proofs.Ytnhanldefebjbaa
open Go Go.RowKit

/-- an account's two numbers, from a place of a block on -/
structure AcAt (w : World) (b off : Nat) (cs : Array Value) (ty : TypeId) (l t : Int) : Prop where
  heap : w.heap[b]? = some (.cells cs ty (0, 0))
  c0 : cs[off]? = some (i64 l)
  c1 : cs[off + 1]? = some (i64 t)

set_option maxHeartbeats 400000 in
theorem taken_c {w : World} {b off : Nat} {cs : Array Value} {ty : TypeId} {l t : Int} (hb : AcAt w b off cs ty l t) :
    Calls Try.prog 22 #[.pointer (some ⟨b, off, none⟩)] w fun e w' => e = .returned (i64 t) ∧ Upd [] w w' := by
  have c1 := (cellOf hb.heap (off + 1)).trans hb.c1
  refine post fun R hR => ?_
  go_enter Try.func22, Try.ntmps22
  go_wp2
  exact hR.out _ _ ⟨rfl, Upd.refl _ _⟩

theorem takenNil_c (w : World) :
    Calls Try.prog 22 #[.pointer none] w fun e w' => e = .returned (i64 0) ∧ Upd [] w w' := by
  refine post fun R hR => ?_
  go_enter Try.func22, Try.ntmps22
  go_wp2
  exact hR.out _ _ ⟨rfl, Upd.refl _ _⟩

set_option maxHeartbeats 400000 in
theorem room_c {w : World} {b off : Nat} {cs : Array Value} {ty : TypeId} {l t : Int} (hb : AcAt w b off cs ty l t) (hl : 0 ≤ l ∧ l ≤ 1048576) (ht : 0 ≤ t ∧ t ≤ 1048576) :
    Calls Try.prog 23 #[.pointer (some ⟨b, off, none⟩)] w fun e w' => e = .returned (i64 (max (l - t) 0)) ∧ Upd [] w w' := by
  have c0 := (cellOf hb.heap off).trans hb.c0
  have c1 := (cellOf hb.heap (off + 1)).trans hb.c1
  refine post fun R hR => ?_
  go_enter Try.func23, Try.ntmps23
  go_wp2
  go_region
  all_goals go_wp2
  all_goals refine hR.out _ _ ⟨ret_i ?_, (Upd.refl _ _).drew⟩
  all_goals omega

theorem roomNil_c (w : World) :
    Calls Try.prog 23 #[.pointer none] w fun e w' => e = .returned (i64 0) ∧ Upd [] w w' := by
  refine post fun R hR => ?_
  go_enter Try.func23, Try.ntmps23
  go_wp2
  exact hR.out _ _ ⟨rfl, Upd.refl _ _⟩

set_option maxHeartbeats 400000 in
theorem aset_c {w : World} {b off : Nat} {cs : Array Value} {ty : TypeId} {l t : Int} (hb : AcAt w b off cs ty l t) (n : Int) :
    Calls Try.prog 21 #[.pointer (some ⟨b, off, none⟩), i64 n] w fun e w' => e = .returned (.tuple #[]) ∧ Upd [b] w w' ∧
      w'.heap[b]? = some (.cells (cs.setIfInBounds off (i64 (max 0 (min n 1048576)))) ty (0, 0)) := by
  have c0 := (cellOf hb.heap off).trans hb.c0
  have fz := frzOf hb.heap off
  refine post fun R hR => ?_
  go_enter Try.func21, Try.ntmps21
  go_wp2
  all_goals (try go_returns)
  all_goals refine hR.out _ _ ⟨rfl, ?_, ?_⟩
  · (repeat' (first | (with_reducible exact Upd.refl _ _) | (with_reducible assumption) | (with_reducible apply Upd.drew) | (with_reducible apply Upd.drewN) | (with_reducible apply Upd.alloc) | (with_reducible refine Upd.setCell ?_ (by simp) _) | (with_reducible refine Upd.setCell ?_ (by simp; omega) _)))
  · rw [show max 0 (min n 1048576) = 1048576 by omega]; exact heap_setCell hb.heap _ _
  · (repeat' (first | (with_reducible exact Upd.refl _ _) | (with_reducible assumption) | (with_reducible apply Upd.drew) | (with_reducible apply Upd.drewN) | (with_reducible apply Upd.alloc) | (with_reducible refine Upd.setCell ?_ (by simp) _) | (with_reducible refine Upd.setCell ?_ (by simp; omega) _)))
  · rw [show max 0 (min n 1048576) = n by omega]; exact heap_setCell hb.heap _ _
  · (repeat' (first | (with_reducible exact Upd.refl _ _) | (with_reducible assumption) | (with_reducible apply Upd.drew) | (with_reducible apply Upd.drewN) | (with_reducible apply Upd.alloc) | (with_reducible refine Upd.setCell ?_ (by simp) _) | (with_reducible refine Upd.setCell ?_ (by simp; omega) _)))
  · rw [show max 0 (min n 1048576) = 0 by omega]; exact heap_setCell hb.heap _ _

theorem asetNil_c (n : Int) (w : World) :
    Calls Try.prog 21 #[.pointer none, i64 n] w fun e w' => e = .returned (.tuple #[]) ∧ w = w' := by
  refine post fun R hR => ?_
  go_enter Try.func21, Try.ntmps21
  go_wp2
  (try go_returns)
  exact hR.out _ _ ⟨rfl, rfl⟩

/-- what a move tells -/
def moveErr (room n full : Int) : Int := if n < 0 then 1 else if room < n then full else 0

set_option maxHeartbeats 400000 in
theorem moveRoom_c {w : World} {b off : Nat} {cs : Array Value} {ty : TypeId} {l t : Int} (hb : AcAt w b off cs ty l t) (n full room : Int) (hfull : full ≠ 0)
    (hf : ∀ w' : World, Upd [] w w' → Calls Try.prog 23 #[.pointer (some ⟨b, off, none⟩)] w' fun e w'' => e = .returned (i64 room) ∧ Upd [] w' w'')
    (hroom : 0 ≤ room ∧ room ≤ 1048576) (ht : 0 ≤ t ∧ t ≤ 1048576) :
    Calls Try.prog 53 #[.pointer (some ⟨b, off, none⟩), i64 n, i64 (1), .func (.func 23) #[.pointer (some ⟨b, off, none⟩)] #[], i64 full] w
      fun e w' => e = .returned (i64 (moveErr room n full)) ∧ Upd [b] w w' ∧
      w'.heap[b]? = some (.cells (if moveErr room n full = 0 then cs.setIfInBounds (off + 1) (i64 (t + n)) else cs) ty (0, 0)) := by
  have HF := Lib.hid hf
  clear hf
  by_cases h1 : n < 0
  · refine post fun R hR => ?_
    go_enter Try.func53, Try.ntmps53
    go_wp2_with fail
    have e : moveErr room n full = 1 := by unfold moveErr; rw [if_pos h1]
    exact hR.out _ _ ⟨ret_i e.symm, Upd.refl _ _, by rw [e, if_neg (by omega)]; exact hb.heap⟩
  · by_cases h2 : room < n
    · refine post fun R hR => ?_
      go_enter Try.func53, Try.ntmps53
      go_wp2_with (go_at_call 23; refine (HF.out _ (Upd.refl _ _)).mono ?_; rintro e w2 ⟨rfl, hu⟩)
      have e : moveErr room n full = full := by unfold moveErr; rw [if_neg (by omega), if_pos h2]
      refine hR.out _ _ ⟨ret_i e.symm, hu.mono (by simp), ?_⟩
      rw [e, if_neg hfull]
      exact hu.keep0 hb.heap
    · have hb2 : ∀ w2, Upd [] w w2 → w2.cell? ⟨b, off + 1, none⟩ = some (i64 t) ∧ w2.frozen? ⟨b, off + 1, none⟩ = false := fun w2 hu =>
        ⟨(cellOf (hu.keep0 hb.heap) (off + 1)).trans hb.c1, frzOf (hu.keep0 hb.heap) _⟩
      have HB := Lib.hid hb2
      clear hb2
      refine post fun R hR => ?_
      go_enter Try.func53, Try.ntmps53
      go_wp2_with (go_at_call 23; refine (HF.out _ (Upd.refl _ _)).mono ?_; rintro e w2 ⟨rfl, hu⟩; obtain ⟨c1, fz⟩ := HB.out _ hu)
      have e : moveErr room n full = 0 := by unfold moveErr; rw [if_neg (by omega), if_neg (by omega)]
      refine hR.out _ _ ⟨ret_i e.symm, ?_, ?_⟩
      · refine (hu.mono (by simp)).trans' ?_
        (repeat' (first | (with_reducible exact Upd.refl _ _) | (with_reducible assumption) | (with_reducible apply Upd.drew) | (with_reducible apply Upd.drewN) | (with_reducible apply Upd.alloc) | (with_reducible refine Upd.setCell ?_ (by simp) _) | (with_reducible refine Upd.setCell ?_ (by simp; omega) _)))
      · have hh : ∀ v : Value, (w2.setCell ⟨b, off + 1, none⟩ v).heap[b]? = some (.cells (cs.setIfInBounds (off + 1) v) ty (0, 0)) := fun v => heap_setCell (hu.keep0 hb.heap) _ _
        rw [e, if_pos rfl]
        refine (hh _).trans ?_
        (congr 5; try omega)

set_option maxHeartbeats 400000 in
theorem moveTaken_c {w : World} {b off : Nat} {cs : Array Value} {ty : TypeId} {l t : Int} (hb : AcAt w b off cs ty l t) (n full room : Int) (hfull : full ≠ 0)
    (hf : ∀ w' : World, Upd [] w w' → Calls Try.prog 22 #[.pointer (some ⟨b, off, none⟩)] w' fun e w'' => e = .returned (i64 room) ∧ Upd [] w' w'')
    (hroom : 0 ≤ room ∧ room ≤ 1048576) (ht : 0 ≤ t ∧ t ≤ 1048576) :
    Calls Try.prog 53 #[.pointer (some ⟨b, off, none⟩), i64 n, i64 (-1), .func (.func 22) #[.pointer (some ⟨b, off, none⟩)] #[], i64 full] w
      fun e w' => e = .returned (i64 (moveErr room n full)) ∧ Upd [b] w w' ∧
      w'.heap[b]? = some (.cells (if moveErr room n full = 0 then cs.setIfInBounds (off + 1) (i64 (t - n)) else cs) ty (0, 0)) := by
  have HF := Lib.hid hf
  clear hf
  by_cases h1 : n < 0
  · refine post fun R hR => ?_
    go_enter Try.func53, Try.ntmps53
    go_wp2_with fail
    have e : moveErr room n full = 1 := by unfold moveErr; rw [if_pos h1]
    exact hR.out _ _ ⟨ret_i e.symm, Upd.refl _ _, by rw [e, if_neg (by omega)]; exact hb.heap⟩
  · by_cases h2 : room < n
    · refine post fun R hR => ?_
      go_enter Try.func53, Try.ntmps53
      go_wp2_with (go_at_call 22; refine (HF.out _ (Upd.refl _ _)).mono ?_; rintro e w2 ⟨rfl, hu⟩)
      have e : moveErr room n full = full := by unfold moveErr; rw [if_neg (by omega), if_pos h2]
      refine hR.out _ _ ⟨ret_i e.symm, hu.mono (by simp), ?_⟩
      rw [e, if_neg hfull]
      exact hu.keep0 hb.heap
    · have hb2 : ∀ w2, Upd [] w w2 → w2.cell? ⟨b, off + 1, none⟩ = some (i64 t) ∧ w2.frozen? ⟨b, off + 1, none⟩ = false := fun w2 hu =>
        ⟨(cellOf (hu.keep0 hb.heap) (off + 1)).trans hb.c1, frzOf (hu.keep0 hb.heap) _⟩
      have HB := Lib.hid hb2
      clear hb2
      refine post fun R hR => ?_
      go_enter Try.func53, Try.ntmps53
      go_wp2_with (go_at_call 22; refine (HF.out _ (Upd.refl _ _)).mono ?_; rintro e w2 ⟨rfl, hu⟩; obtain ⟨c1, fz⟩ := HB.out _ hu)
      have e : moveErr room n full = 0 := by unfold moveErr; rw [if_neg (by omega), if_neg (by omega)]
      refine hR.out _ _ ⟨ret_i e.symm, ?_, ?_⟩
      · refine (hu.mono (by simp)).trans' ?_
        (repeat' (first | (with_reducible exact Upd.refl _ _) | (with_reducible assumption) | (with_reducible apply Upd.drew) | (with_reducible apply Upd.drewN) | (with_reducible apply Upd.alloc) | (with_reducible refine Upd.setCell ?_ (by simp) _) | (with_reducible refine Upd.setCell ?_ (by simp; omega) _)))
      · have hh : ∀ v : Value, (w2.setCell ⟨b, off + 1, none⟩ v).heap[b]? = some (.cells (cs.setIfInBounds (off + 1) v) ty (0, 0)) := fun v => heap_setCell (hu.keep0 hb.heap) _ _
        rw [e, if_pos rfl]
        refine (hh _).trans ?_
        (congr 5; try omega)
set_option maxHeartbeats 400000 in
theorem atake_c {w : World} {b off : Nat} {cs : Array Value} {ty : TypeId} {l t : Int} (hb : AcAt w b off cs ty l t) (n : Int) (hl : 0 ≤ l ∧ l ≤ 1048576) (ht : 0 ≤ t ∧ t ≤ 1048576) :
    Calls Try.prog 17 #[.pointer (some ⟨b, off, none⟩), i64 n] w fun e w' => e = .returned (i64 (moveErr (max (l - t) 0) n 13)) ∧ Upd [b] w w' ∧
      w'.heap[b]? = some (.cells (if moveErr (max (l - t) 0) n 13 = 0 then cs.setIfInBounds (off + 1) (i64 (t + n)) else cs) ty (0, 0)) := by
  have hm := moveRoom_c hb n 13 (max (l - t) 0) (by omega) (fun w' hu => room_c ⟨hu.keep0 hb.heap, hb.c0, hb.c1⟩ hl ht) (by omega) ht
  have HM := Lib.hid hm
  clear hm
  refine post fun R hR => ?_
  go_enter Try.func17, Try.ntmps17
  go_wp2_with (go_at_call 53; refine HM.out.mono ?_; rintro e w2 ⟨rfl, hu, hh⟩)
  exact hR.out _ _ ⟨rfl, hu, hh⟩

set_option maxHeartbeats 400000 in
theorem agive_c {w : World} {b off : Nat} {cs : Array Value} {ty : TypeId} {l t : Int} (hb : AcAt w b off cs ty l t) (n : Int) (ht : 0 ≤ t ∧ t ≤ 1048576) :
    Calls Try.prog 19 #[.pointer (some ⟨b, off, none⟩), i64 n] w fun e w' => e = .returned (i64 (moveErr t n 1)) ∧ Upd [b] w w' ∧
      w'.heap[b]? = some (.cells (if moveErr t n 1 = 0 then cs.setIfInBounds (off + 1) (i64 (t - n)) else cs) ty (0, 0)) := by
  have hm := moveTaken_c hb n 1 t (by omega) (fun w' hu => taken_c ⟨hu.keep0 hb.heap, hb.c0, hb.c1⟩) ht ht
  have HM := Lib.hid hm
  clear hm
  refine post fun R hR => ?_
  go_enter Try.func19, Try.ntmps19
  go_wp2_with (go_at_call 53; refine HM.out.mono ?_; rintro e w2 ⟨rfl, hu, hh⟩)
  exact hR.out _ _ ⟨rfl, hu, hh⟩

set_option maxHeartbeats 400000 in
theorem anew_c (n : Int) (w : World) :
    Calls Try.prog 15 #[i64 n] w fun e w' => e = .returned (.pointer (some ⟨w.heap.size, 0, none⟩)) ∧ Upd [] w w' ∧
      w'.heap[w.heap.size]? = some (.cells #[i64 (max 0 (min n 1048576)), i64 0] 40 (0, 0)) := by
  refine post fun R hR => ?_
  go_enter Try.func15, Try.ntmps15
  have hb : AcAt (w.alloc (.cells #[i64 0, i64 0] 40)) w.heap.size 0 #[i64 0, i64 0] 40 0 0 := ⟨heap_alloc_new _ _, rfl, rfl⟩
  go_wp2_with (go_at_call 21; refine (aset_c hb _).mono ?_; rintro e w2 ⟨rfl, hu, hh⟩)
  exact hR.out _ _ ⟨rfl, Upd.trans ((Upd.refl _ _).alloc _) (S' := [w.heap.size]) hu (by simp), hh⟩
end Go.Proofs.Ytnhanldefebjbaa

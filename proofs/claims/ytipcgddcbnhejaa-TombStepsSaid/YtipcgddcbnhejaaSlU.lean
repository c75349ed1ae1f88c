/-
  The contracts of slices.Clone, and of slices.Delete of the first element, over []uint64. Conditions: the slice is the call's own, no longer than a thousand.
-/
import Derived.Test.YtipcgddcbnhejaaSlD
namespace Go.Proofs.Ytipcgddcbnhejaa
open Go Go.RowKit

set_option maxRecDepth 100000 in
set_option maxHeartbeats 400000 in
theorem sclone_c {w : World} {base : Nat} {v : Value} {l : List Int} (h : Sub w base 22 1 v l.length (evs l)) (hlen : l.length ≤ 1000) :
    Calls Try.prog 31 #[v] w fun e w' => ∃ v', e = .returned v' ∧ Sub w' w.heap.size 22 1 v' l.length (evs l) ∧ Upd [] w w' := by
  obtain ⟨i0, hi, hz0, hz1, hz2⟩ := info_parts info_el
  rcases h.2 with ⟨rfl, hn⟩ | ⟨g, off, cap, cs, rfl, h2, h3, h4, h5, h6, h7⟩
  · obtain rfl : l = [] := List.eq_nil_of_length_eq_zero hn
    clear h
    have hq := Lib.run_eql_slice_nil (P := Try.prog) w _ _ none 0 0 0 0 Try.underlying43
    refine post fun R hR => ?_
    go_enter Try.func31, Try.ntmps31
    go_wp2_with fail
    exact hR.out _ _ ⟨_, rfl, sub_nil _ _ _ _, Upd.refl _ _⟩
  · have hsrc := Sub.src (h.upd0 ((Upd.refl [] w).alloc (.cells #[] 22)))
    have hl1 := evs_one l
    have HL1 := Lib.hid hl1
    have HSRC := Lib.hid hsrc
    have hnew : Sub (w.alloc (.cells #[] 22)) w.heap.size 22 1 (.slice (some ⟨w.heap.size, 0, none⟩) 0 0) 0 [] :=
      ⟨rfl, .inr ⟨w.heap.size, 0, 0, #[], rfl, Nat.le_refl _, heap_alloc_new _ _, Nat.le_refl _, by unfold maxLen; omega, by simp, fun j hj => by omega⟩⟩
    have HNEW := Lib.hid hnew
    have hq := Lib.run_eql_slice_nil (P := Try.prog) w _ _ (some ⟨g, off, none⟩) l.length cap 0 0 Try.underlying43
    clear h hl1 hsrc h2 h3 h4 h5 h6 h7 hnew
    refine post fun R hR => ?_
    go_enter Try.func31, Try.ntmps31
    go_wp2_with (at_builtin; refine wpList_append_sub _ rfl _ _ 43 rfl w.heap.size 22 i0 _ 1 8 Try.underlying43 hi hz0 hz1 hz2 rfl (by decide) (.slice (some ⟨w.heap.size, 0, none⟩) 0 0) 0 [] rfl HNEW.out _ l.length cap (evs l) rfl HSRC.out (by rw [evs_len, Nat.mul_one]) HL1.out (by unfold maxLen; omega) (by omega) (by simp) ?_; intro ao cap2 w2 hs2 hu2 hb2; rw [Nat.zero_add, List.nil_append] at hs2; have hu3 : Upd [] w w2 := ((Upd.refl [] w).alloc _).trans hu2 (by intro x hx; have hx2 : x = w.heap.size := (by simpa [blkL] using hx); exact .inr (Nat.le_of_eq hx2.symm)); have HS2 := Lib.hid hs2; have HU3 := Lib.hid hu3; clear hs2 hu2 hb2 hu3)
    refine hR.out _ _ ⟨_, ?_, HS2.out, HU3.out⟩
    first | rfl | (rw [Nat.zero_add]; rfl) | simp

set_option maxRecDepth 100000 in
set_option maxHeartbeats 1000000 in
/-- the first of two or more is taken away -/
theorem sdel1_c {w : World} {base : Nat} {v : Value} {a : Int} {l : List Int} (h : Sub w base 22 1 v (l.length + 1) (evs (a :: l))) (hlen : l.length ≤ 1000) (hpos : 0 < l.length) :
    Calls Try.prog 30 #[v, i64 0, i64 1] w fun e w' => ∃ v', e = .returned v' ∧ Sub w' base 22 1 v' l.length (evs l) ∧ Upd (blkL v) w w' ∧ (∀ g ∈ blkL v', g ∈ blkL v) := by
  obtain ⟨i0, hi, hz0, hz1, hz2⟩ := info_parts info_el
  obtain ⟨hl, hs⟩ := h
  rcases hs with ⟨rfl, hn⟩ | ⟨g, off, cap, cs, rfl, h2, h3, h4, h5, h6, h7⟩
  · omega
  · have hcell : ∀ j, j < l.length + 1 → w.drew.cell? ⟨g, off + j, none⟩ = (evs (a :: l))[j]? := fun j hj => (cellOf (heap_drew h3) _).trans (h7 j (by omega))
    have hsome : ∀ j, j < l.length + 1 → (w.drew.cell? ⟨g, off + j, none⟩).isSome = true := fun j hj => by rw [hcell j hj, evs_get (by simpa using hj)]; rfl
    have hrun := run_append_room_cells (P := Try.prog) w.drew 43 43 22 i0 Try.underlying43 hi g off 0 cap ⟨g, off + 1, none⟩ l.length (cap - 1) (evs l) (by rw [hz1, evs_len, Nat.mul_one])
      (fun j u hj => by
        have hjl : j < l.length := by
          rcases Nat.lt_or_ge j (evs l).length with q | q
          · rwa [evs_len] at q
          · rw [List.getElem?_eq_none q] at hj; cases hj
        rw [Addr.add_lit, show off + 1 + j = off + (j + 1) by omega, hcell (j + 1) (by omega)]
        exact hj) (evs_one l) (by omega)
      (fun j hj => by rw [evs_len] at hj; rw [Nat.zero_mul, Nat.add_zero]; exact hsome j (by omega)) (fun j hj => frzOf (heap_drew h3) _)
    rw [Nat.zero_mul, Nat.add_zero, Nat.zero_add] at hrun
    obtain ⟨cs', q1, q2, q3, q4, q5⟩ := heap_setCells w.drew g off (evs l) (heap_drew h3) (by rw [evs_len]; omega)
    generalize w.drew.setCells g off (evs l) = w1 at *
    have hs1 : Sub w1 base 22 1 (.slice (some ⟨g, off, none⟩) l.length cap) l.length (evs l) :=
      ⟨by rw [evs_len, Nat.mul_one], .inr ⟨g, off, cap, cs', rfl, h2, q1, by omega, h5, by omega, fun j hj => q4 j (by rw [evs_len]; omega)⟩⟩
    have hcl : ∀ ty, (Builtin.clear_ #[43] ty #[.slice (some ⟨g, off + l.length, none⟩) 1 (cap - l.length)]).run Try.prog w1 = .ok (.tuple #[]) (w1.setCells g (off + l.length) (List.replicate 1 (.int .u64 0))) :=
      fun ty => Lib.run_clear_slice w1 _ _ ty _ Try.underlying43 zero_el rfl rfl g (off + l.length) _ _ (by omega) (fun j hj => by rw [cellOf q1, Array.getElem?_eq_getElem (by omega)]; rfl) (fun j hj => frzOf q1 _)
    have hb := hs1.behind (o := off + l.length) (zs := List.replicate 1 (.int .u64 0)) (by omega) (by simp; omega)
    have HB := Lib.hid hb
    have HU := Lib.hid ((Upd.refl [g] w).drew.trans' q5)
    have hc0 : ¬ cap - l.length = 0 := by omega
    have hc1 : ¬ cap = 1 := by omega
    have hc3 : (1 : Int) ≤ (l.length : Int) + 1 := by omega
    have hc2 : l.length + 1 - l.length = 1 := by omega
    clear hb q1 q2 q3 q4 q5 h3 h6 h7 hl hcell hsome hz0 hz1 hz2 hi hs1
    generalize l.length = n at *
    refine post fun R hR => ?_
    go_enter Try.func30, Try.ntmps30
    go_wp2_with fail
    go_region_law ((refine step_plain rfl (wp_append_run _ _ _ rfl rfl rfl hrun ?_)))
    all_goals go_wp2_with fail
    all_goals exact hR.out _ _ ⟨_, rfl, HB.out.1, HU.out.trans' HB.out.2, fun g hg => hg⟩
end Go.Proofs.Ytipcgddcbnhejaa

/-
  The contracts of the document's New, Set, Drop, Push, Rest (concourseref25) on a ring as one notion (Rg). Condition: rows of some hundred numbers at most.
-/
import Derived.Test.YtabhdigannalgaaRfOps
namespace Go.Proofs.Ytabhdigannalgaa
open Go Go.RowKit

section
variable {w : World} {fv rv : Value} {G : Nat → F6} {cv : Nat → Value} {row : List Int}

set_option maxRecDepth 100000 in
set_option maxHeartbeats 1000000 in
theorem rsetBad_c (h : FlsAt w fv G cv) (hr : Ints w rv row) (n k : Int) (hbad : n < 0 ∨ 8 < n ∨ k < 1 ∨ 1048576 < k) :
    Calls Try.prog 20 #[.agg #[fv, rv], i64 n, i64 k] w fun e w' => ∃ fv' rv' cv', e = .returned (.tuple #[.agg #[fv', rv'], i64 1]) ∧ FlsAt w' fv' G cv' ∧ Ints w' rv' row ∧ Upd [] w w' ∧ ∀ Y, InY Y fv rv cv → InY (grow Y w) fv' rv' cv' := by
  obtain ⟨g, off, cap, rfl, hg, hcap⟩ := h.form
  obtain ⟨ra, rc, rfl, hrc, -⟩ := hr.sl
  have HF := Lib.hid h
  have HR := Lib.hid hr
  clear h hr
  refine post fun R hR => ?_
  go_enter Try.func20, Try.ntmps20
  go_upto_region 1 with (fail)
  obtain ⟨A, hA⟩ : ∃ A, A = w.heap.size := ⟨_, rfl⟩
  have hAw : w.heap.size ≤ A := by omega
  have hA1 := heap_alloc_old (heap_alloc_new w (.cells #[.slice (some ⟨g, off, none⟩) 9 cap, .slice ra row.length rc] 46)) (.cells #[.slice none 0 0, .slice none 0 0] 46)
  have hA2 := heap_new2 w (.cells #[.slice (some ⟨g, off, none⟩) 9 cap, .slice ra row.length rc] 46) (.cells #[.slice none 0 0, .slice none 0 0] 46)
  have hu0 := ((Upd.refl [] w).alloc (.cells #[.slice (some ⟨g, off, none⟩) 9 cap, .slice ra row.length rc] 46)).alloc (.cells #[.slice none 0 0, .slice none 0 0] 46)
  rw [← hA] at hA1 hA2 ⊢
  clear hA
  generalize (w.alloc (.cells #[.slice (some ⟨g, off, none⟩) 9 cap, .slice ra row.length rc] 46)).alloc (.cells #[.slice none 0 0, .slice none 0 0] 46) = w1 at *
  have hs1 := lt_of_heap hA1
  have hs2 := lt_of_heap hA2
  obtain ⟨a0, a1, p0, p1⟩ := cells2 hA1
  obtain ⟨b0, b1, q0, q1⟩ := cells2 hA2
  have HU0 := Lib.hid hu0
  clear hu0
  have hB2 := hA2
  have HB := Lib.hid hbad
  by_cases g1 : n < 0
  · clear hbad
    go_wp2_with (fail)
    have hK2 := hset2_1 (v := .slice ra row.length rc) (hset2_0 (v := .slice (some ⟨g, off, none⟩) 9 cap) hB2)
    have hu9 : Upd [A + 1] w1 ((w1.setCell ⟨A + 1, 0, none⟩ (.slice (some ⟨g, off, none⟩) 9 cap)).setCell ⟨A + 1, 1, none⟩ (.slice ra row.length rc)) := ((Upd.refl _ _).setCell (by simp) _).setCell (by simp) _
    obtain ⟨k0, k1, -⟩ := cells2 hK2
    clear b0 b1 q0 q1
    refine bodyPost_ret (v := .tuple #[.agg #[.slice (some ⟨g, off, none⟩) 9 cap, .slice ra row.length rc], i64 1]) (by simp [results, Try.results20, go_sem, *]) rfl ?_
    refine hR.out _ _ ?_
    have hu10 := HU0.out.trans hu9 (fun x hx => .inr (by have := List.mem_singleton.1 hx; omega))
    exact ⟨_, _, _, rfl, HF.out.upd0 hu10, HR.out.upd0 hu10, hu10, fun Y h => h.more (grow_sub Y w)⟩
  · by_cases g2 : 8 < n
    · clear hbad
      go_wp2_with (fail)
      have hK2 := hset2_1 (v := .slice ra row.length rc) (hset2_0 (v := .slice (some ⟨g, off, none⟩) 9 cap) hB2)
      have hu9 : Upd [A + 1] w1 ((w1.setCell ⟨A + 1, 0, none⟩ (.slice (some ⟨g, off, none⟩) 9 cap)).setCell ⟨A + 1, 1, none⟩ (.slice ra row.length rc)) := ((Upd.refl _ _).setCell (by simp) _).setCell (by simp) _
      obtain ⟨k0, k1, -⟩ := cells2 hK2
      clear b0 b1 q0 q1
      refine bodyPost_ret (v := .tuple #[.agg #[.slice (some ⟨g, off, none⟩) 9 cap, .slice ra row.length rc], i64 1]) (by simp [results, Try.results20, go_sem, *]) rfl ?_
      refine hR.out _ _ ?_
      have hu10 := HU0.out.trans hu9 (fun x hx => .inr (by have := List.mem_singleton.1 hx; omega))
      exact ⟨_, _, _, rfl, HF.out.upd0 hu10, HR.out.upd0 hu10, hu10, fun Y h => h.more (grow_sub Y w)⟩
    · by_cases g3 : k < 1
      · clear hbad
        go_wp2_with (fail)
        have hK2 := hset2_1 (v := .slice ra row.length rc) (hset2_0 (v := .slice (some ⟨g, off, none⟩) 9 cap) hB2)
        have hu9 : Upd [A + 1] w1 ((w1.setCell ⟨A + 1, 0, none⟩ (.slice (some ⟨g, off, none⟩) 9 cap)).setCell ⟨A + 1, 1, none⟩ (.slice ra row.length rc)) := ((Upd.refl _ _).setCell (by simp) _).setCell (by simp) _
        obtain ⟨k0, k1, -⟩ := cells2 hK2
        clear b0 b1 q0 q1
        refine bodyPost_ret (v := .tuple #[.agg #[.slice (some ⟨g, off, none⟩) 9 cap, .slice ra row.length rc], i64 1]) (by simp [results, Try.results20, go_sem, *]) rfl ?_
        refine hR.out _ _ ?_
        have hu10 := HU0.out.trans hu9 (fun x hx => .inr (by have := List.mem_singleton.1 hx; omega))
        exact ⟨_, _, _, rfl, HF.out.upd0 hu10, HR.out.upd0 hu10, hu10, fun Y h => h.more (grow_sub Y w)⟩
      · have g4 : 1048576 < k := by omega
        clear hbad
        go_wp2_with (fail)
        have hK2 := hset2_1 (v := .slice ra row.length rc) (hset2_0 (v := .slice (some ⟨g, off, none⟩) 9 cap) hB2)
        have hu9 : Upd [A + 1] w1 ((w1.setCell ⟨A + 1, 0, none⟩ (.slice (some ⟨g, off, none⟩) 9 cap)).setCell ⟨A + 1, 1, none⟩ (.slice ra row.length rc)) := ((Upd.refl _ _).setCell (by simp) _).setCell (by simp) _
        obtain ⟨k0, k1, -⟩ := cells2 hK2
        clear b0 b1 q0 q1
        refine bodyPost_ret (v := .tuple #[.agg #[.slice (some ⟨g, off, none⟩) 9 cap, .slice ra row.length rc], i64 1]) (by simp [results, Try.results20, go_sem, *]) rfl ?_
        refine hR.out _ _ ?_
        have hu10 := HU0.out.trans hu9 (fun x hx => .inr (by have := List.mem_singleton.1 hx; omega))
        exact ⟨_, _, _, rfl, HF.out.upd0 hu10, HR.out.upd0 hu10, hu10, fun Y h => h.more (grow_sub Y w)⟩

set_option maxRecDepth 100000 in
set_option maxHeartbeats 1000000 in
theorem rpushBad_c (h : FlsAt w fv G cv) (hr : Ints w rv row) (n c : Int) (hbad : c < 1 ∨ 1040 < c) :
    Calls Try.prog 21 #[.agg #[fv, rv], i64 n, i64 c] w fun e w' => ∃ fv' rv' cv', e = .returned (.tuple #[.agg #[fv', rv'], i64 1]) ∧ FlsAt w' fv' G cv' ∧ Ints w' rv' row ∧ Upd [] w w' ∧ ∀ Y, InY Y fv rv cv → InY (grow Y w) fv' rv' cv' := by
  obtain ⟨g, off, cap, rfl, hg, hcap⟩ := h.form
  obtain ⟨ra, rc, rfl, hrc, -⟩ := hr.sl
  have HF := Lib.hid h
  have HR := Lib.hid hr
  clear h hr
  refine post fun R hR => ?_
  go_enter Try.func21, Try.ntmps21
  go_upto_region 1 with (fail)
  obtain ⟨A, hA⟩ : ∃ A, A = w.heap.size := ⟨_, rfl⟩
  have hAw : w.heap.size ≤ A := by omega
  have hA1 := heap_alloc_old (heap_alloc_new w (.cells #[.slice (some ⟨g, off, none⟩) 9 cap, .slice ra row.length rc] 46)) (.cells #[.slice none 0 0, .slice none 0 0] 46)
  have hA2 := heap_new2 w (.cells #[.slice (some ⟨g, off, none⟩) 9 cap, .slice ra row.length rc] 46) (.cells #[.slice none 0 0, .slice none 0 0] 46)
  have hu0 := ((Upd.refl [] w).alloc (.cells #[.slice (some ⟨g, off, none⟩) 9 cap, .slice ra row.length rc] 46)).alloc (.cells #[.slice none 0 0, .slice none 0 0] 46)
  rw [← hA] at hA1 hA2 ⊢
  clear hA
  generalize (w.alloc (.cells #[.slice (some ⟨g, off, none⟩) 9 cap, .slice ra row.length rc] 46)).alloc (.cells #[.slice none 0 0, .slice none 0 0] 46) = w1 at *
  have hs1 := lt_of_heap hA1
  have hs2 := lt_of_heap hA2
  obtain ⟨a0, a1, p0, p1⟩ := cells2 hA1
  obtain ⟨b0, b1, q0, q1⟩ := cells2 hA2
  have HU0 := Lib.hid hu0
  clear hu0
  have hB2 := hA2
  have HB := Lib.hid hbad
  by_cases g1 : c < 1
  · clear hbad
    go_wp2_with (fail)
    have hK2 := hset2_1 (v := .slice ra row.length rc) (hset2_0 (v := .slice (some ⟨g, off, none⟩) 9 cap) hB2)
    have hu9 : Upd [A + 1] w1 ((w1.setCell ⟨A + 1, 0, none⟩ (.slice (some ⟨g, off, none⟩) 9 cap)).setCell ⟨A + 1, 1, none⟩ (.slice ra row.length rc)) := ((Upd.refl _ _).setCell (by simp) _).setCell (by simp) _
    obtain ⟨k0, k1, -⟩ := cells2 hK2
    clear b0 b1 q0 q1
    refine bodyPost_ret (v := .tuple #[.agg #[.slice (some ⟨g, off, none⟩) 9 cap, .slice ra row.length rc], i64 1]) (by simp [results, Try.results21, go_sem, *]) rfl ?_
    refine hR.out _ _ ?_
    have hu10 := HU0.out.trans hu9 (fun x hx => .inr (by have := List.mem_singleton.1 hx; omega))
    exact ⟨_, _, _, rfl, HF.out.upd0 hu10, HR.out.upd0 hu10, hu10, fun Y h => h.more (grow_sub Y w)⟩
  · have g4 : 1040 < c := by omega
    clear hbad
    go_wp2_with (fail)
    have hK2 := hset2_1 (v := .slice ra row.length rc) (hset2_0 (v := .slice (some ⟨g, off, none⟩) 9 cap) hB2)
    have hu9 : Upd [A + 1] w1 ((w1.setCell ⟨A + 1, 0, none⟩ (.slice (some ⟨g, off, none⟩) 9 cap)).setCell ⟨A + 1, 1, none⟩ (.slice ra row.length rc)) := ((Upd.refl _ _).setCell (by simp) _).setCell (by simp) _
    obtain ⟨k0, k1, -⟩ := cells2 hK2
    clear b0 b1 q0 q1
    refine bodyPost_ret (v := .tuple #[.agg #[.slice (some ⟨g, off, none⟩) 9 cap, .slice ra row.length rc], i64 1]) (by simp [results, Try.results21, go_sem, *]) rfl ?_
    refine hR.out _ _ ?_
    have hu10 := HU0.out.trans hu9 (fun x hx => .inr (by have := List.mem_singleton.1 hx; omega))
    exact ⟨_, _, _, rfl, HF.out.upd0 hu10, HR.out.upd0 hu10, hu10, fun Y h => h.more (grow_sub Y w)⟩

set_option maxRecDepth 100000 in
set_option maxHeartbeats 1000000 in
theorem rpushNone_c (h : FlsAt w fv G cv) (hr : Ints w rv row) (n c : Int) (hc : 1 ≤ c ∧ c ≤ 1040) (hth : thereG G n = false) :
    Calls Try.prog 21 #[.agg #[fv, rv], i64 n, i64 c] w fun e w' => ∃ fv' rv' cv', e = .returned (.tuple #[.agg #[fv', rv'], i64 12]) ∧ FlsAt w' fv' G cv' ∧ Ints w' rv' row ∧ Upd [] w w' ∧ ∀ Y, InY Y fv rv cv → InY (grow Y w) fv' rv' cv' := by
  obtain ⟨g, off, cap, rfl, hg, hcap⟩ := h.form
  obtain ⟨ra, rc, rfl, hrc, -⟩ := hr.sl
  have hthc := fun (w' : World) (hu : Upd [] w w') => rthere_c (h.upd0 hu) n ra row.length rc
  rw [hth] at hthc
  have HF := Lib.hid h
  have HR := Lib.hid hr
  have HTH := Lib.hid hthc
  clear h hr hthc
  refine post fun R hR => ?_
  go_enter Try.func21, Try.ntmps21
  go_upto_region 1 with (fail)
  obtain ⟨A, hA⟩ : ∃ A, A = w.heap.size := ⟨_, rfl⟩
  have hAw : w.heap.size ≤ A := by omega
  have hA1 := heap_alloc_old (heap_alloc_new w (.cells #[.slice (some ⟨g, off, none⟩) 9 cap, .slice ra row.length rc] 46)) (.cells #[.slice none 0 0, .slice none 0 0] 46)
  have hA2 := heap_new2 w (.cells #[.slice (some ⟨g, off, none⟩) 9 cap, .slice ra row.length rc] 46) (.cells #[.slice none 0 0, .slice none 0 0] 46)
  have hu0 := ((Upd.refl [] w).alloc (.cells #[.slice (some ⟨g, off, none⟩) 9 cap, .slice ra row.length rc] 46)).alloc (.cells #[.slice none 0 0, .slice none 0 0] 46)
  rw [← hA] at hA1 hA2 ⊢
  clear hA
  generalize (w.alloc (.cells #[.slice (some ⟨g, off, none⟩) 9 cap, .slice ra row.length rc] 46)).alloc (.cells #[.slice none 0 0, .slice none 0 0] 46) = w1 at *
  have hs1 := lt_of_heap hA1
  have hs2 := lt_of_heap hA2
  obtain ⟨a0, a1, p0, p1⟩ := cells2 hA1
  obtain ⟨b0, b1, q0, q1⟩ := cells2 hA2
  have HU0 := Lib.hid hu0
  clear hu0
  go_wp2_with (fail)
  refine (HTH.out _ HU0.out).mono ?_
  rintro e w2 ⟨rfl, hu2⟩
  have hB1 := hu2.keep0 hA1
  have hB2 := hu2.keep0 hA2
  have HU2 := Lib.hid (HU0.out.trans' hu2)
  clear hA1 hA2 hs1 hs2 a0 a1 p0 p1 b0 b1 q0 q1 hu2
  have hs1 := lt_of_heap hB1
  have hs2 := lt_of_heap hB2
  obtain ⟨a0, a1, p0, p1⟩ := cells2 hB1
  obtain ⟨b0, b1, q0, q1⟩ := cells2 hB2
  go_wp2_with (fail)
  have hK2 := hset2_1 (v := .slice ra row.length rc) (hset2_0 (v := .slice (some ⟨g, off, none⟩) 9 cap) hB2)
  have hu9 : Upd [A + 1] w2 ((w2.setCell ⟨A + 1, 0, none⟩ (.slice (some ⟨g, off, none⟩) 9 cap)).setCell ⟨A + 1, 1, none⟩ (.slice ra row.length rc)) := ((Upd.refl _ _).setCell (by simp) _).setCell (by simp) _
  obtain ⟨k0, k1, -⟩ := cells2 hK2
  clear b0 b1 q0 q1
  refine bodyPost_ret (v := .tuple #[.agg #[.slice (some ⟨g, off, none⟩) 9 cap, .slice ra row.length rc], i64 12]) (by simp [results, Try.results21, go_sem, *]) rfl ?_
  refine hR.out _ _ ?_
  have hu10 := HU2.out.trans hu9 (fun x hx => .inr (by have := List.mem_singleton.1 hx; omega))
  exact ⟨_, _, _, rfl, HF.out.upd0 hu10, HR.out.upd0 hu10, hu10, fun Y h => h.more (grow_sub Y w)⟩
set_option maxRecDepth 100000 in
set_option maxHeartbeats 1000000 in
theorem rrestNone_c (h : FlsAt w fv G cv) (hr : Ints w rv row) (n : Int) (b : Bool) (hth : thereG G n = false) :
    Calls Try.prog 22 #[.agg #[fv, rv], i64 n, .bool b] w fun e w' => ∃ fv' rv' cv', e = .returned (.tuple #[.agg #[fv', rv'], i64 12]) ∧ FlsAt w' fv' G cv' ∧ Ints w' rv' row ∧ Upd [] w w' ∧ ∀ Y, InY Y fv rv cv → InY (grow Y w) fv' rv' cv' := by
  obtain ⟨g, off, cap, rfl, hg, hcap⟩ := h.form
  obtain ⟨ra, rc, rfl, hrc, -⟩ := hr.sl
  have hthc := fun (w' : World) (hu : Upd [] w w') => rthere_c (h.upd0 hu) n ra row.length rc
  rw [hth] at hthc
  have HF := Lib.hid h
  have HR := Lib.hid hr
  have HTH := Lib.hid hthc
  clear h hr hthc
  refine post fun R hR => ?_
  go_enter Try.func22, Try.ntmps22
  go_upto_region 1 with (fail)
  obtain ⟨A, hA⟩ : ∃ A, A = w.heap.size := ⟨_, rfl⟩
  have hAw : w.heap.size ≤ A := by omega
  have hA1 := heap_alloc_old (heap_alloc_new w (.cells #[.slice (some ⟨g, off, none⟩) 9 cap, .slice ra row.length rc] 46)) (.cells #[.slice none 0 0, .slice none 0 0] 46)
  have hA2 := heap_new2 w (.cells #[.slice (some ⟨g, off, none⟩) 9 cap, .slice ra row.length rc] 46) (.cells #[.slice none 0 0, .slice none 0 0] 46)
  have hu0 := ((Upd.refl [] w).alloc (.cells #[.slice (some ⟨g, off, none⟩) 9 cap, .slice ra row.length rc] 46)).alloc (.cells #[.slice none 0 0, .slice none 0 0] 46)
  rw [← hA] at hA1 hA2 ⊢
  clear hA
  generalize (w.alloc (.cells #[.slice (some ⟨g, off, none⟩) 9 cap, .slice ra row.length rc] 46)).alloc (.cells #[.slice none 0 0, .slice none 0 0] 46) = w1 at *
  have hs1 := lt_of_heap hA1
  have hs2 := lt_of_heap hA2
  obtain ⟨a0, a1, p0, p1⟩ := cells2 hA1
  obtain ⟨b0, b1, q0, q1⟩ := cells2 hA2
  have HU0 := Lib.hid hu0
  clear hu0
  go_wp2_with (fail)
  refine (HTH.out _ HU0.out).mono ?_
  rintro e w2 ⟨rfl, hu2⟩
  have hB1 := hu2.keep0 hA1
  have hB2 := hu2.keep0 hA2
  have HU2 := Lib.hid (HU0.out.trans' hu2)
  clear hA1 hA2 hs1 hs2 a0 a1 p0 p1 b0 b1 q0 q1 hu2
  have hs1 := lt_of_heap hB1
  have hs2 := lt_of_heap hB2
  obtain ⟨a0, a1, p0, p1⟩ := cells2 hB1
  obtain ⟨b0, b1, q0, q1⟩ := cells2 hB2
  go_wp2_with (fail)
  have hK2 := hset2_1 (v := .slice ra row.length rc) (hset2_0 (v := .slice (some ⟨g, off, none⟩) 9 cap) hB2)
  have hu9 : Upd [A + 1] w2 ((w2.setCell ⟨A + 1, 0, none⟩ (.slice (some ⟨g, off, none⟩) 9 cap)).setCell ⟨A + 1, 1, none⟩ (.slice ra row.length rc)) := ((Upd.refl _ _).setCell (by simp) _).setCell (by simp) _
  obtain ⟨k0, k1, -⟩ := cells2 hK2
  clear b0 b1 q0 q1
  refine bodyPost_ret (v := .tuple #[.agg #[.slice (some ⟨g, off, none⟩) 9 cap, .slice ra row.length rc], i64 12]) (by simp [results, Try.results22, go_sem, *]) rfl ?_
  refine hR.out _ _ ?_
  have hu10 := HU2.out.trans hu9 (fun x hx => .inr (by have := List.mem_singleton.1 hx; omega))
  exact ⟨_, _, _, rfl, HF.out.upd0 hu10, HR.out.upd0 hu10, hu10, fun Y h => h.more (grow_sub Y w)⟩
set_option maxRecDepth 100000 in
set_option maxHeartbeats 1000000 in
theorem rdropNone_c (h : FlsAt w fv G cv) (hr : Ints w rv row) (n : Int) (hth : thereG G n = false) :
    Calls Try.prog 23 #[.agg #[fv, rv], i64 n] w fun e w' => ∃ fv' rv' cv', e = .returned (.tuple #[.agg #[fv', rv'], i64 0]) ∧ FlsAt w' fv' G cv' ∧ Ints w' rv' row ∧ Upd [] w w' ∧ ∀ Y, InY Y fv rv cv → InY (grow Y w) fv' rv' cv' := by
  obtain ⟨g, off, cap, rfl, hg, hcap⟩ := h.form
  obtain ⟨ra, rc, rfl, hrc, -⟩ := hr.sl
  have hthc := fun (w' : World) (hu : Upd [] w w') => rthere_c (h.upd0 hu) n ra row.length rc
  rw [hth] at hthc
  have HF := Lib.hid h
  have HR := Lib.hid hr
  have HTH := Lib.hid hthc
  clear h hr hthc
  refine post fun R hR => ?_
  go_enter Try.func23, Try.ntmps23
  go_upto_region 1 with (fail)
  obtain ⟨A, hA⟩ : ∃ A, A = w.heap.size := ⟨_, rfl⟩
  have hAw : w.heap.size ≤ A := by omega
  have hA1 := heap_alloc_old (heap_alloc_new w (.cells #[.slice (some ⟨g, off, none⟩) 9 cap, .slice ra row.length rc] 46)) (.cells #[.slice none 0 0, .slice none 0 0] 46)
  have hA2 := heap_new2 w (.cells #[.slice (some ⟨g, off, none⟩) 9 cap, .slice ra row.length rc] 46) (.cells #[.slice none 0 0, .slice none 0 0] 46)
  have hu0 := ((Upd.refl [] w).alloc (.cells #[.slice (some ⟨g, off, none⟩) 9 cap, .slice ra row.length rc] 46)).alloc (.cells #[.slice none 0 0, .slice none 0 0] 46)
  rw [← hA] at hA1 hA2 ⊢
  clear hA
  generalize (w.alloc (.cells #[.slice (some ⟨g, off, none⟩) 9 cap, .slice ra row.length rc] 46)).alloc (.cells #[.slice none 0 0, .slice none 0 0] 46) = w1 at *
  have hs1 := lt_of_heap hA1
  have hs2 := lt_of_heap hA2
  obtain ⟨a0, a1, p0, p1⟩ := cells2 hA1
  obtain ⟨b0, b1, q0, q1⟩ := cells2 hA2
  have HU0 := Lib.hid hu0
  clear hu0
  go_wp2_with (fail)
  refine (HTH.out _ HU0.out).mono ?_
  rintro e w2 ⟨rfl, hu2⟩
  have hB1 := hu2.keep0 hA1
  have hB2 := hu2.keep0 hA2
  have HU2 := Lib.hid (HU0.out.trans' hu2)
  clear hA1 hA2 hs1 hs2 a0 a1 p0 p1 b0 b1 q0 q1 hu2
  have hs1 := lt_of_heap hB1
  have hs2 := lt_of_heap hB2
  obtain ⟨a0, a1, p0, p1⟩ := cells2 hB1
  obtain ⟨b0, b1, q0, q1⟩ := cells2 hB2
  go_wp2_with (fail)
  have hK2 := hset2_1 (v := .slice ra row.length rc) (hset2_0 (v := .slice (some ⟨g, off, none⟩) 9 cap) hB2)
  have hu9 : Upd [A + 1] w2 ((w2.setCell ⟨A + 1, 0, none⟩ (.slice (some ⟨g, off, none⟩) 9 cap)).setCell ⟨A + 1, 1, none⟩ (.slice ra row.length rc)) := ((Upd.refl _ _).setCell (by simp) _).setCell (by simp) _
  obtain ⟨k0, k1, -⟩ := cells2 hK2
  clear b0 b1 q0 q1
  refine bodyPost_ret (v := .tuple #[.agg #[.slice (some ⟨g, off, none⟩) 9 cap, .slice ra row.length rc], i64 0]) (by simp [results, Try.results23, go_sem, *]) rfl ?_
  refine hR.out _ _ ?_
  have hu10 := HU2.out.trans hu9 (fun x hx => .inr (by have := List.mem_singleton.1 hx; omega))
  exact ⟨_, _, _, rfl, HF.out.upd0 hu10, HR.out.upd0 hu10, hu10, fun Y h => h.more (grow_sub Y w)⟩
end

/-- the document's ring -/
def Gof (r : Rg) : Nat → F6 := fun j => F6.of (r.fl j)
def RfAt (w : World) (Y : Nat → Prop) (fv rv : Value) (r : Rg) : Prop := ∃ cv, FlsAt w fv (Gof r) cv ∧ Ints w rv r.row ∧ InY Y fv rv cv
theorem RfAt.upd0 {w w' : World} {Y : Nat → Prop} {fv rv : Value} {r : Rg} (h : RfAt w Y fv rv r) (hu : Upd [] w w') : RfAt w' Y fv rv r := by
  obtain ⟨cv, h1, h2, h3⟩ := h
  exact ⟨cv, h1.upd0 hu, h2.upd0 hu, h3⟩
theorem RfAt.upd {w w' : World} {Y : Nat → Prop} {fv rv : Value} {r : Rg} (h : RfAt w Y fv rv r) {S : List Nat} (hu : Upd S w w') (hS : ∀ x ∈ S, ¬ Y x) : RfAt w' Y fv rv r := by
  obtain ⟨cv, h1, h2, h3⟩ := h
  exact ⟨cv, ⟨h1.1.upd hu fun x hx hm => hS x hm (h3.1 x hx), fun j hj => (h1.2 j hj).upd hu fun x hx hm => hS x hm (h3.2.2 j hj x hx)⟩, Sub.upd h2 hu fun x hx hm => hS x hm (h3.2.1 x hx), h3⟩
theorem RfAt.more {w : World} {Y Y' : Nat → Prop} {fv rv : Value} {r : Rg} (h : RfAt w Y fv rv r) (hy : ∀ x, Y x → Y' x) : RfAt w Y' fv rv r := by
  obtain ⟨cv, h1, h2, h3⟩ := h
  exact ⟨cv, h1, h2, h3.more hy⟩
theorem RfAt.cut {w : World} {Y : Nat → Prop} {fv rv : Value} {r : Rg} (h : RfAt w Y fv rv r) : RfAt w (cutZ Y w) fv rv r := by
  obtain ⟨cv, h1, h2, h3⟩ := h
  exact ⟨cv, h1, h2, fun x hx => ⟨h3.1 x hx, (h1.1.lt x hx).2⟩, fun x hx => ⟨h3.2.1 x hx, (Sub.lt h2 x hx).2⟩, fun j hj x hx => ⟨h3.2.2 j hj x hx, ((h1.2 j hj).lt x hx).2⟩⟩
theorem RfAt.ints {w : World} {Y : Nat → Prop} {fv rv : Value} {r : Rg} (h : RfAt w Y fv rv r) : Ints w rv r.row := by
  obtain ⟨cv, h1, h2, h3⟩ := h
  exact h2
theorem gof_put (r : Rg) (n : Nat) (o : Option Fl) (row : List Int) : Gof ⟨r.put n o, row⟩ = updN (Gof r) n (F6.of o) := by
  funext j
  unfold Gof updN
  by_cases e : j = n
  · subst e; rw [if_pos rfl]; show F6.of (r.put j o j) = _; rw [Rg.put_same]
  · rw [if_neg e]; show F6.of (r.put n o j) = _; rw [Rg.put_other r o (by omega)]
theorem of_act (f : Fl) : (F6.of (some f)).act = f.act := by unfold F6.act Fl.act F6.of; simp
theorem settle_gof (r : Rg) (n : Nat) (f : Fl) : Gof (r.settle n f) = updN (Gof r) n (stF (F6.of (some f)) r.row n) ∧ (r.settle n f).row = stR (F6.of (some f)) r.row n := by
  unfold Rg.settle stF stR
  rw [of_act]
  split
  · split
    · exact ⟨gof_put _ _ _ _, rfl⟩
    · exact ⟨gof_put _ _ _ _, rfl⟩
  · exact ⟨gof_put _ _ _ _, rfl⟩
theorem gof_there {r : Rg} (h : r.ok) (n : Int) : thereG (Gof r) n = (r.fl n).isSome := by
  unfold thereG Gof
  by_cases hn : 0 ≤ n ∧ n ≤ 8
  · rw [decide_eq_true hn, show ((n.toNat : Nat) : Int) = n from by omega]
    cases r.fl n <;> rfl
  · rw [decide_eq_false hn]
    cases hf : r.fl n with
    | none => rfl
    | some f => exact (hn (h.rng n f hf)).elim

theorem rnew25_c (w : World) : Calls Try.prog 19 #[] w fun e w' => ∃ g, e = .returned (.agg #[.slice (some ⟨g, 0, none⟩) 9 9, .slice none 0 0]) ∧ RfAt w' (grow (fun _ => False) w) (.slice (some ⟨g, 0, none⟩) 9 9) (.slice none 0 0) Rg.new ∧ Upd [] w w' :=
  (rnew_c w).mono fun _ _ ⟨g, h1, h2, h3, h4⟩ => ⟨g, h1, ⟨_, h2, sub_nil _ _ _ _, fun x hx => .inr (h4 x hx), fun x hx => by simp [blkL] at hx, fun j hj x hx => by simp [blkL] at hx⟩, h3⟩

theorem rset25_c {w : World} {Y : Nat → Prop} {fv rv : Value} {r : Rg} (h : RfAt w Y fv rv r) (n q : Int) :
    Calls Try.prog 20 #[.agg #[fv, rv], i64 n, i64 q] w fun e w' => ∃ fv' rv', e = .returned (.tuple #[.agg #[fv', rv'], i64 (setE n q)]) ∧ RfAt w' (grow Y w) fv' rv' (r.set n q) ∧ Upd [] w w' := by
  obtain ⟨cv, h1, h2, h3⟩ := h
  by_cases hbad : n < 0 ∨ 8 < n ∨ q < 1 ∨ 1048576 < q
  · rw [show setE n q = 1 from by unfold setE; rw [if_pos hbad], show r.set n q = r from by unfold Rg.set; rw [if_pos hbad]]
    exact (rsetBad_c h1 h2 n q hbad).mono fun _ _ ⟨a, b, c, k1, k2, k3, k4, k5⟩ => ⟨a, b, k1, ⟨c, k2, k3, k5 Y h3⟩, k4⟩
  · obtain ⟨m, rfl⟩ : ∃ m : Nat, n = m := ⟨n.toNat, by omega⟩
    rw [show setE m q = 0 from by unfold setE; rw [if_neg hbad], show r.set m q = ⟨r.put m (some (Fl.reset q (r.fl m))), r.row⟩ from by unfold Rg.set; rw [if_neg hbad]]
    refine (rsetG_c h1 h2 m (by omega) q (by omega)).mono fun _ _ ⟨a, b, c, k1, k2, k3, k4, k5⟩ => ⟨a, b, k1, ⟨c, ?_, k3, k5 Y h3⟩, k4⟩
    rw [gof_put]
    have e : F6.of (some (Fl.reset q (r.fl m))) = { Gof r m with th := true, q := q, d := min (Gof r m).d q } := by
      unfold Gof
      cases r.fl m with
      | none => show (⟨true, q, 0, [], false, false⟩ : F6) = ⟨true, q, min 0 q, [], false, false⟩; rw [show min (0 : Int) q = 0 from by omega]
      | some f => rfl
    rw [e]; exact k2

theorem rpush25_c {w : World} {Y : Nat → Prop} {fv rv : Value} {r : Rg} (h : RfAt w Y fv rv r) (hok : r.ok) {K : Nat} (hsm : r.small K) (hK : K ≤ 900) (n c : Int) :
    Calls Try.prog 21 #[.agg #[fv, rv], i64 n, i64 c] w fun e w' => ∃ fv' rv', e = .returned (.tuple #[.agg #[fv', rv'], i64 (r.pushE n c)]) ∧ RfAt w' (grow Y w) fv' rv' (r.push n c) ∧ Upd [] w w' := by
  obtain ⟨cv, h1, h2, h3⟩ := h
  have hlen := hok.len
  by_cases hbad : c < 1 ∨ 1040 < c
  · rw [show r.pushE n c = 1 from by unfold Rg.pushE; rw [if_pos hbad], show r.push n c = r from by unfold Rg.push; rw [if_pos hbad]]
    exact (rpushBad_c h1 h2 n c hbad).mono fun _ _ ⟨a, b, c, k1, k2, k3, k4, k5⟩ => ⟨a, b, k1, ⟨c, k2, k3, k5 Y h3⟩, k4⟩
  · cases hf : r.fl n with
    | none =>
      rw [show r.pushE n c = 12 from by unfold Rg.pushE; rw [if_neg hbad, if_pos hf], show r.push n c = r from by unfold Rg.push; rw [if_neg hbad, hf]]
      exact (rpushNone_c h1 h2 n c (by omega) (by rw [gof_there hok, hf]; rfl)).mono fun _ _ ⟨a, b, c, k1, k2, k3, k4, k5⟩ => ⟨a, b, k1, ⟨c, k2, k3, k5 Y h3⟩, k4⟩
    | some f =>
      have hr := hok.rng n f hf
      obtain ⟨m, rfl⟩ : ∃ m : Nat, n = m := ⟨n.toNat, by omega⟩
      have hG : Gof r m = F6.of (some f) := by unfold Gof; rw [hf]
      rw [show r.pushE m c = 0 from by unfold Rg.pushE; rw [if_neg hbad, if_neg (by rw [hf]; exact fun e => by cases e)], show r.push m c = r.settle m { f with cs := f.cs ++ [c] } from by unfold Rg.push; rw [if_neg hbad, hf]]
      have hl := hsm m f hf
      refine (rpushG_c h1 h2 (by omega) m (by omega) (by rw [hG]; show f.cs.length ≤ 1000; omega) c (by omega) (by rw [hG]; rfl)).mono fun _ _ ⟨a, b, c, k1, k2, k3, k4, k5⟩ => ⟨a, b, k1, ⟨c, ?_, ?_, k5 Y h3⟩, k4⟩
      · rw [(settle_gof r m _).1]; rw [hG] at k2; exact k2
      · rw [(settle_gof r m _).2]; rw [hG] at k3; exact k3

theorem rrest25_c {w : World} {Y : Nat → Prop} {fv rv : Value} {r : Rg} (h : RfAt w Y fv rv r) (hok : r.ok) {K : Nat} (hsm : r.small K) (hK : K ≤ 900) (n : Int) (b : Bool) :
    Calls Try.prog 22 #[.agg #[fv, rv], i64 n, .bool b] w fun e w' => ∃ fv' rv', e = .returned (.tuple #[.agg #[fv', rv'], i64 (r.restE n)]) ∧ RfAt w' (grow Y w) fv' rv' (r.rest n b) ∧ Upd [] w w' := by
  obtain ⟨cv, h1, h2, h3⟩ := h
  have hlen := hok.len
  cases hf : r.fl n with
  | none =>
    rw [show r.restE n = 12 from by unfold Rg.restE; rw [if_pos hf], show r.rest n b = r from by unfold Rg.rest; rw [hf]]
    exact (rrestNone_c h1 h2 n b (by rw [gof_there hok, hf]; rfl)).mono fun _ _ ⟨a, b, c, k1, k2, k3, k4, k5⟩ => ⟨a, b, k1, ⟨c, k2, k3, k5 Y h3⟩, k4⟩
  | some f =>
    have hr := hok.rng n f hf
    obtain ⟨m, rfl⟩ : ∃ m : Nat, n = m := ⟨n.toNat, by omega⟩
    have hG : Gof r m = F6.of (some f) := by unfold Gof; rw [hf]
    rw [show r.restE m = 0 from by unfold Rg.restE; rw [if_neg (by rw [hf]; exact fun e => by cases e)], show r.rest m b = r.settle m { f with rs := b } from by unfold Rg.rest; rw [hf]]
    have hl := hsm m f hf
    refine (rrestG_c h1 h2 (by omega) m (by omega) (by rw [hG]; show f.cs.length ≤ 1000; omega) b (by rw [hG]; rfl)).mono fun _ _ ⟨a, b, c, k1, k2, k3, k4, k5⟩ => ⟨a, b, k1, ⟨c, ?_, ?_, k5 Y h3⟩, k4⟩
    · rw [(settle_gof r m _).1]; rw [hG] at k2; exact k2
    · rw [(settle_gof r m _).2]; rw [hG] at k3; exact k3

theorem rdrop25_c {w : World} {Y : Nat → Prop} {fv rv : Value} {r : Rg} (h : RfAt w Y fv rv r) (hok : r.ok) (n : Int) :
    Calls Try.prog 23 #[.agg #[fv, rv], i64 n] w fun e w' => ∃ fv' rv', e = .returned (.tuple #[.agg #[fv', rv'], i64 (r.waits n)]) ∧ RfAt w' (grow Y w) fv' rv' (r.drop n) ∧ Upd [] w w' := by
  obtain ⟨cv, h1, h2, h3⟩ := h
  have hlen := hok.len
  cases hf : r.fl n with
  | none =>
    rw [show r.waits n = 0 from by unfold Rg.waits; rw [hf], show r.drop n = r from by unfold Rg.drop; rw [if_pos hf]]
    exact (rdropNone_c h1 h2 n (by rw [gof_there hok, hf]; rfl)).mono fun _ _ ⟨a, b, c, k1, k2, k3, k4, k5⟩ => ⟨a, b, k1, ⟨c, k2, k3, k5 Y h3⟩, k4⟩
  | some f =>
    have hr := hok.rng n f hf
    obtain ⟨m, rfl⟩ : ∃ m : Nat, n = m := ⟨n.toNat, by omega⟩
    have hG : Gof r m = F6.of (some f) := by unfold Gof; rw [hf]
    rw [show r.waits m = f.cs.length from by unfold Rg.waits; rw [hf], show r.drop m = ⟨r.put m none, offR m r.row⟩ from by unfold Rg.drop; rw [if_neg (by rw [hf]; exact fun e => by cases e)]]
    refine (rdropG_c h1 h2 (by omega) m (by omega) (by rw [hG]; rfl)).mono fun _ _ ⟨a, b, c, k1, k2, k3, k4, k5⟩ => ⟨a, b, by rw [hG] at k1; exact k1, ⟨c, ?_, ?_, k5 Y h3⟩, k4⟩
    · rw [gof_put]; exact k2
    · exact k3
end Go.Proofs.Ytabhdigannalgaa

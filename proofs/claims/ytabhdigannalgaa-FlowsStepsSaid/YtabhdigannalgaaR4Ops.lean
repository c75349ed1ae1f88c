/-
  The contracts of the document's flows (concourseref40): New, Row, Set, Rest, and the costs. Condition: rows of some hundred items at most.
-/
import Derived.Test.YtabhdigannalgaaR4
namespace Go.Proofs.Ytabhdigannalgaa
open Go Go.RowKit Go.Maps

theorem R4.shape {w : World} {Y : Nat → Prop} {fv rv xv : Value} {r : Rg} {its : Nat → List It} (h : R4 w Y fv rv xv r its) : ∃ fa fc ra rn rc xa xc, fv = .slice fa 9 fc ∧ rv = .slice ra rn rc ∧ xv = .slice xa 9 xc := by
  obtain ⟨⟨g, off, fc, rfl⟩, ra, rc, rfl⟩ := h.1.shape
  obtain ⟨g2, off2, xc, rfl⟩ := h.2.shape
  exact ⟨_, _, _, _, _, _, _, rfl, rfl, rfl⟩
theorem RfAt.shape2 {w : World} {Y : Nat → Prop} {fv rv : Value} {r : Rg} (h : RfAt w Y fv rv r) : ∃ fa fc ra rn rc, fv = .slice fa 9 fc ∧ rv = .slice ra rn rc := by
  obtain ⟨⟨g, off, fc, rfl⟩, ra, rc, rfl⟩ := h.shape
  exact ⟨_, _, _, _, _, rfl, rfl⟩

theorem sub_tvl {w : World} {x : Nat} (h : w.heap[x]? = some (.cells (tvl fun _ => .slice none 0 0).toArray 85 (0, 0))) : Sub w 0 85 1 (.slice (some ⟨x, 0, none⟩) 9 9) 9 (tvl fun _ => .slice none 0 0) :=
  ⟨rfl, .inr ⟨x, 0, 9, _, rfl, Nat.zero_le _, h, Nat.le_refl _, by unfold maxLen; omega, by simp [tvl], fun j hj => by rw [Nat.zero_add, List.getElem?_toArray]⟩⟩

set_option maxRecDepth 100000 in
theorem r4new_c (w : World) : Calls Try.prog 38 #[] w fun e w' => ∃ f x, e = .returned (.agg #[.slice (some ⟨f, 0, none⟩) 9 9, .slice none 0 0, .slice (some ⟨x, 0, none⟩) 9 9]) ∧ R4 w' (grow (fun _ => False) w) (.slice (some ⟨f, 0, none⟩) 9 9) (.slice none 0 0) (.slice (some ⟨x, 0, none⟩) 9 9) Rg.new (fun _ => []) ∧ Upd [] w w' := by
  obtain ⟨i2, hi2, hx0, hx1, hx2⟩ := info_parts info_row40
  have hmk : ∀ wx, (Instr.makeSlice 79 (i64 9) (i64 9)).run Try.prog wx = .ok (.slice (some ⟨wx.heap.size, 0, none⟩) 9 9) (wx.alloc (.cells (tvl fun _ => .slice none 0 0).toArray 85)) := by
    intro wx
    have := run_make (P := Try.prog) wx 79 85 i2 _ Try.underlying79 hi2 hx0 .i64 .i64 9 9 (by omega) (by omega) (by rw [hx2]; omega) (by omega)
    rw [this, hx1, show (madeCells (Value.slice none 0 0).cells (Int.toNat 9 * 1)) = (tvl fun _ => .slice none 0 0).toArray from by kernel_rfl]; rfl
  have hnc := fun w' => rnew25_c w'
  have HNC := Lib.hid hnc
  clear hnc
  refine post fun R hR => ?_
  go_enter Try.func38, Try.ntmps38
  go_upto_region 1 with (fail)
  have hA := heap_alloc_new w (.cells #[.slice none 0 0, .slice none 0 0, .slice none 0 0] 81)
  have hu0 := (Upd.refl [] w).alloc (.cells #[.slice none 0 0, .slice none 0 0, .slice none 0 0] 81)
  obtain ⟨A, hAe⟩ : ∃ A, A = w.heap.size := ⟨_, rfl⟩
  rw [← hAe] at hA ⊢
  generalize w.alloc (.cells #[.slice none 0 0, .slice none 0 0, .slice none 0 0] 81) = w1 at *
  have HAE := Lib.hid hAe
  have HU0 := Lib.hid hu0
  have HA := Lib.hid hA
  have hsA := lt_of_heap hA
  obtain ⟨a0, a1, a2, p0, p1, p2⟩ := cells3 hA
  clear hA hu0 hAe
  go_region_held3 (fun _ => True) (trivial) ((first | (go_at_call 19; (with_reducible refine Calls.mono (HNC.out _) ?_); rintro e w2 ⟨g, rfl, hR2, hu2⟩; have hB := hu2.keep0 (by first | exact HA.out | exact heap_drew HA.out | exact heap_alloc_old HA.out _ | exact heap_alloc_old (heap_drew HA.out) _ | exact heap_drew (heap_alloc_old HA.out _)); have hsB := lt_of_heap hB; obtain ⟨b0, b1, b2, q0, q1, q2⟩ := cells3 hB)))
  · have hN : (((w2.setCell ⟨A, 0, none⟩ (.slice (some ⟨g, 0, none⟩) 9 9)).setCell ⟨A, 1, none⟩ (.slice none 0 0)).setCell ⟨A, 2, none⟩ (.slice (some ⟨w2.heap.size, 0, none⟩) 9 9)).heap.size = w2.heap.size := by simp
    obtain ⟨B, hBe⟩ : ∃ B, B = w2.heap.size := ⟨_, rfl⟩
    have hS := sub_tvl (heap_alloc_new (((w2.setCell ⟨A, 0, none⟩ (.slice (some ⟨g, 0, none⟩) 9 9)).setCell ⟨A, 1, none⟩ (.slice none 0 0)).setCell ⟨A, 2, none⟩ (.slice (some ⟨w2.heap.size, 0, none⟩) 9 9)) (.cells (tvl fun _ => .slice none 0 0).toArray 85))
    rw [hN, ← hBe] at hS
    rw [← hBe]
    have hu3 : Upd [A] w2 (((w2.setCell ⟨A, 0, none⟩ (.slice (some ⟨g, 0, none⟩) 9 9)).setCell ⟨A, 1, none⟩ (.slice none 0 0)).setCell ⟨A, 2, none⟩ (.slice (some ⟨B, 0, none⟩) 9 9)) := (((Upd.refl _ _).setCell (p := ⟨A, 0, none⟩) (by simp) _).setCell (p := ⟨A, 1, none⟩) (by simp) _).setCell (p := ⟨A, 2, none⟩) (by simp) _
    have hE := heap_alloc_old (hset3_2 (v := .slice (some ⟨B, 0, none⟩) 9 9) (hset3_1 (v := .slice none 0 0) (hset3_0 (v := .slice (some ⟨g, 0, none⟩) 9 9) hB))) (.cells (tvl fun _ => .slice none 0 0).toArray 85)
    have hu4 := hu3.alloc (.cells (tvl fun _ => .slice none 0 0).toArray 85)
    clear b0 b1 b2 q0 q1 q2 a0 a1 a2 p0 p1 p2
    generalize (((w2.setCell ⟨A, 0, none⟩ (.slice (some ⟨g, 0, none⟩) 9 9)).setCell ⟨A, 1, none⟩ (.slice none 0 0)).setCell ⟨A, 2, none⟩ (.slice (some ⟨B, 0, none⟩) 9 9)).alloc (.cells (tvl fun _ => .slice none 0 0).toArray 85) = w4 at *
    obtain ⟨k0, k1, k2, -⟩ := cells3 hE
    go_wp2_with (fail)
    refine bodyPost_ret (v := .agg #[.slice (some ⟨g, 0, none⟩) 9 9, .slice none 0 0, .slice (some ⟨B, 0, none⟩) 9 9]) (by simp [results, Try.results38, go_sem, *]) rfl ?_
    refine hR.out _ _ ?_
    have hz := HU0.out.size
    have hz2 := hu2.size
    have hz3 : w1.drew.heap.size = w1.heap.size := rfl
    refine ⟨_, _, rfl, ⟨(hR2.upd hu4 (fun x hx q => ?_)).more (fun x q => q.imp id (Nat.le_trans hz)), _, hS, fun x hx => ?_, fun j hj => ⟨sub_nil _ _ _ _, fun x hx => by simp [blkL] at hx⟩⟩, (HU0.out.trans' ((Upd.refl [] w1).drew.trans' hu2)).trans hu4 (fun x hx => .inr ?_)⟩
    · have := List.mem_singleton.1 hx; subst this
      exact q.elim id (fun q => by omega)
    · simp [blkL] at hx; subst hx; exact .inr (by omega)
    · have := List.mem_singleton.1 hx; have := HAE.out; omega
  · obtain ⟨B, hBe⟩ : ∃ B, B = w1.heap.size := ⟨_, rfl⟩
    have hS0 := hu2.keep0 (heap_drew (heap_alloc_new w1 (.cells (tvl fun _ => .slice none 0 0).toArray 85)))
    rw [← hBe] at hS0 ⊢
    have hu4 : Upd [A] w2 (((w2.setCell ⟨A, 0, none⟩ (.slice (some ⟨g, 0, none⟩) 9 9)).setCell ⟨A, 1, none⟩ (.slice none 0 0)).setCell ⟨A, 2, none⟩ (.slice (some ⟨B, 0, none⟩) 9 9)) := (((Upd.refl _ _).setCell (p := ⟨A, 0, none⟩) (by simp) _).setCell (p := ⟨A, 1, none⟩) (by simp) _).setCell (p := ⟨A, 2, none⟩) (by simp) _
    have hS := sub_tvl (hu4.keep hS0 (by intro hm; have := List.mem_singleton.1 hm; omega))
    have hE := hset3_2 (v := .slice (some ⟨B, 0, none⟩) 9 9) (hset3_1 (v := .slice none 0 0) (hset3_0 (v := .slice (some ⟨g, 0, none⟩) 9 9) hB))
    clear b0 b1 b2 q0 q1 q2 a0 a1 a2 p0 p1 p2
    generalize (((w2.setCell ⟨A, 0, none⟩ (.slice (some ⟨g, 0, none⟩) 9 9)).setCell ⟨A, 1, none⟩ (.slice none 0 0)).setCell ⟨A, 2, none⟩ (.slice (some ⟨B, 0, none⟩) 9 9)) = w4 at *
    obtain ⟨k0, k1, k2, -⟩ := cells3 hE
    go_wp2_with (fail)
    refine bodyPost_ret (v := .agg #[.slice (some ⟨g, 0, none⟩) 9 9, .slice none 0 0, .slice (some ⟨B, 0, none⟩) 9 9]) (by simp [results, Try.results38, go_sem, *]) rfl ?_
    refine hR.out _ _ ?_
    have hz := HU0.out.size
    have hz3 : w1.heap.size ≤ (w1.alloc (.cells (tvl fun _ => .slice none 0 0).toArray 85)).drew.heap.size := ((Upd.refl [] w1).alloc (.cells (tvl fun _ => .slice none 0 0).toArray 85)).drew.size
    refine ⟨_, _, rfl, ⟨(hR2.upd hu4 (fun x hx q => ?_)).more (fun x q => q.imp id (fun q => by omega)), _, hS, fun x hx => ?_, fun j hj => ⟨sub_nil _ _ _ _, fun x hx => by simp [blkL] at hx⟩⟩, (HU0.out.trans' (((Upd.refl [] w1).alloc _).drew.trans' hu2)).trans hu4 (fun x hx => .inr ?_)⟩
    · have := List.mem_singleton.1 hx; subst this
      exact q.elim id (fun q => by omega)
    · simp [blkL] at hx; subst hx; exact .inr (by omega)
    · have := List.mem_singleton.1 hx; have := HAE.out; omega

section
variable {w : World} {Y : Nat → Prop} {fv rv xv : Value} {r : Rg} {its : Nat → List It}

set_option maxRecDepth 100000 in
set_option maxHeartbeats 2000000 in
theorem r4set_c (h : R4 w Y fv rv xv r its) (n q : Int) :
    Calls Try.prog 39 #[.agg #[fv, rv, xv], i64 n, i64 q] w fun e w' => ∃ fv' rv' xv', e = .returned (.tuple #[.agg #[fv', rv', xv'], i64 (setE n q)]) ∧ R4 w' (grow Y w) fv' rv' xv' (r.set n q) its ∧ Upd [] w w' := by
  obtain ⟨fa, fc, ra, rn, rc, xa, xc, rfl, rfl, rfl⟩ := h.shape
  have HF := Lib.hid h.1.cut
  have HX := Lib.hid h.2.cut
  clear h
  refine post fun R hR => ?_
  go_enter Try.func39, Try.ntmps39
  go_upto_region 1 with (fail)
  obtain ⟨A, hA⟩ : ∃ A, A = w.heap.size := ⟨_, rfl⟩
  have hAw : w.heap.size ≤ A := by omega
  have hA1 := heap_alloc_old (heap_alloc_new w (.cells #[.slice fa 9 fc, .slice ra rn rc, .slice xa 9 xc] 81)) (.cells #[.slice none 0 0, .slice none 0 0, .slice none 0 0] 81)
  have hA2 := heap_new2 w (.cells #[.slice fa 9 fc, .slice ra rn rc, .slice xa 9 xc] 81) (.cells #[.slice none 0 0, .slice none 0 0, .slice none 0 0] 81)
  have hu0 := ((Upd.refl [] w).alloc (.cells #[.slice fa 9 fc, .slice ra rn rc, .slice xa 9 xc] 81)).alloc (.cells #[.slice none 0 0, .slice none 0 0, .slice none 0 0] 81)
  rw [← hA] at hA1 hA2 ⊢
  have hYA : ¬ cutZ Y w A := fun q => by have := q.2; omega
  have hYA1 : ¬ cutZ Y w (A + 1) := fun q => by have := q.2; omega
  clear hA
  generalize (w.alloc (.cells #[.slice fa 9 fc, .slice ra rn rc, .slice xa 9 xc] 81)).alloc (.cells #[.slice none 0 0, .slice none 0 0, .slice none 0 0] 81) = w1 at *
  have hs1 := lt_of_heap hA1
  have hs2 := lt_of_heap hA2
  obtain ⟨a0, a1, a2, p0, p1, p2⟩ := cells3 hA1
  obtain ⟨b0, b1, b2, q0, q1, q2⟩ := cells3 hA2
  have HU0 := Lib.hid hu0
  have HGA : Hid (¬ grow (cutZ Y w) w1 A ∧ ¬ grow (cutZ Y w) w1 (A + 1) ∧ ∀ x, grow (cutZ Y w) w1 x → grow Y w x) := Lib.hid ⟨fun q => q.elim hYA (fun q => by omega), fun q => q.elim hYA1 (fun q => by omega), fun x q => q.imp (fun q => q.1) (Nat.le_trans hu0.size)⟩
  clear hu0 hYA hYA1
  have hsc := rset25_c (HF.out.upd0 HU0.out) n q
  have HSC := Lib.hid hsc
  clear hsc
  go_wp2_with (fail)
  refine HSC.out.mono ?_
  rintro e w2 ⟨fv2, rv2, rfl, hR2, hu2⟩
  obtain ⟨fa2, fc2, ra2, rn2, rc2, rfl, rfl⟩ := hR2.shape2
  have hB1 := hu2.keep0 hA1
  have hB2 := hu2.keep0 hA2
  have HR2 := Lib.hid hR2
  have HU2 := Lib.hid (HU0.out.trans' hu2)
  have HX2 := Lib.hid (((HX.out.upd0 HU0.out).upd0 hu2).more (fun x q => .inl q) : Rw40 w2 (grow (cutZ Y w) w1) (.slice xa 9 xc) its)
  have hw12 := hu2.size
  clear hA1 hA2 hs1 hs2 a0 a1 a2 p0 p1 p2 b0 b1 b2 q0 q1 q2 hR2 hu2
  have hs1 := lt_of_heap hB1
  have hs2 := lt_of_heap hB2
  obtain ⟨a0, a1, a2, p0, p1, p2⟩ := cells3 hB1
  obtain ⟨b0, b1, b2, q0, q1, q2⟩ := cells3 hB2
  go_upto_region 2 with (fail)
  obtain ⟨X, hX⟩ : ∃ X, X = w2.heap.size := ⟨_, rfl⟩
  have hC1 := heap_alloc_old hB1 (.cells #[.slice fa2 9 fc2, .slice ra2 rn2 rc2] 46)
  have hC2 := heap_alloc_old hB2 (.cells #[.slice fa2 9 fc2, .slice ra2 rn2 rc2] 46)
  have hC3 := heap_alloc_new w2 (.cells #[.slice fa2 9 fc2, .slice ra2 rn2 rc2] 46)
  have hux := (Upd.refl [] w2).alloc (.cells #[.slice fa2 9 fc2, .slice ra2 rn2 rc2] 46)
  have hAX : A + 1 < X := by omega
  rw [← hX] at hC3 ⊢
  clear hX hB1 hB2 hs1 hs2 a0 a1 a2 p0 p1 p2 b0 b1 b2 q0 q1 q2
  generalize w2.alloc (.cells #[.slice fa2 9 fc2, .slice ra2 rn2 rc2] 46) = w3 at *
  have hs1 := lt_of_heap hC1
  have hs2 := lt_of_heap hC2
  have hs3 := lt_of_heap hC3
  obtain ⟨a0, a1, a2, p0, p1, p2⟩ := cells3 hC1
  obtain ⟨b0, b1, b2, q0, q1, q2⟩ := cells3 hC2
  obtain ⟨c0, c1, -⟩ := cells2 hC3
  have HUX := Lib.hid hux
  clear hux
  go_upto_region 3 with (fail)
  have hD1 := hset3_1 (v := .slice ra2 rn2 rc2) (hset3_0 (v := .slice fa2 9 fc2) hC1)
  have hD2 := heap_setCell_ne (c := A) (heap_setCell_ne (c := A) hC2 (by omega) 0 (.slice fa2 9 fc2)) (by omega) 1 (.slice ra2 rn2 rc2)
  have hu4 : Upd [A] w2 ((w3.setCell ⟨A, 0, none⟩ (.slice fa2 9 fc2)).setCell ⟨A, 1, none⟩ (.slice ra2 rn2 rc2)) := (((HUX.out.mono (S' := [A]) (by simp)).setCell (p := ⟨A, 0, none⟩) (by simp) _).setCell (p := ⟨A, 1, none⟩) (by simp) _)
  clear hC1 hC2 hC3 hs1 hs2 hs3 a0 a1 a2 p0 p1 p2 b0 b1 b2 q0 q1 q2 c0 c1 HUX
  generalize (w3.setCell ⟨A, 0, none⟩ (.slice fa2 9 fc2)).setCell ⟨A, 1, none⟩ (.slice ra2 rn2 rc2) = w4 at *
  have HR4 := Lib.hid (HR2.out.upd hu4 (fun x hx => by have := List.mem_singleton.1 hx; subst this; exact HGA.out.1))
  have HX4 := Lib.hid (HX2.out.upd hu4 (fun x hx => by have := List.mem_singleton.1 hx; subst this; exact HGA.out.1))
  have HU4 := Lib.hid (HU2.out.trans hu4 (fun x hx => .inr (by have := List.mem_singleton.1 hx; omega)))
  clear HR2 HX2 HU2 hu4
  have hs1 := lt_of_heap hD1
  have hs2 := lt_of_heap hD2
  obtain ⟨a0, a1, a2, p0, p1, p2⟩ := cells3 hD1
  obtain ⟨b0, b1, b2, q0, q1, q2⟩ := cells3 hD2
  go_wp2_with (fail)
  have hE2 := hset3_2 (v := .slice xa 9 xc) (hset3_1 (v := .slice ra2 rn2 rc2) (hset3_0 (v := .slice fa2 9 fc2) hD2))
  obtain ⟨k0, k1, k2, -⟩ := cells3 hE2
  have hu5 : Upd [A + 1] w4 (((w4.setCell ⟨A + 1, 0, none⟩ (.slice fa2 9 fc2)).setCell ⟨A + 1, 1, none⟩ (.slice ra2 rn2 rc2)).setCell ⟨A + 1, 2, none⟩ (.slice xa 9 xc)) := (((Upd.refl _ _).setCell (p := ⟨A + 1, 0, none⟩) (by simp) _).setCell (p := ⟨A + 1, 1, none⟩) (by simp) _).setCell (p := ⟨A + 1, 2, none⟩) (by simp) _
  clear a0 a1 a2 p0 p1 p2 b0 b1 b2 q0 q1 q2
  refine bodyPost_ret (v := .tuple #[.agg #[.slice fa2 9 fc2, .slice ra2 rn2 rc2, .slice xa 9 xc], i64 (setE n q)]) (by simp [results, Try.results39, go_sem, *]) rfl ?_
  refine hR.out _ _ ?_
  have hno : ∀ x ∈ [A + 1], ¬ grow (cutZ Y w) w1 x := fun x hx => by have := List.mem_singleton.1 hx; subst this; exact HGA.out.2.1
  exact ⟨_, _, _, rfl, ⟨(HR4.out.upd hu5 hno).more HGA.out.2.2, (HX4.out.upd hu5 hno).more HGA.out.2.2⟩, HU4.out.trans hu5 (fun x hx => .inr (by have := List.mem_singleton.1 hx; omega))⟩

set_option maxRecDepth 100000 in
set_option maxHeartbeats 2000000 in
theorem r4rest_c (h : R4 w Y fv rv xv r its) (hok : r.ok) {K : Nat} (hsm : r.small K) (hK : K ≤ 900) (n : Int) (b : Bool) :
    Calls Try.prog 42 #[.agg #[fv, rv, xv], i64 n, .bool b] w fun e w' => ∃ fv' rv' xv', e = .returned (.tuple #[.agg #[fv', rv', xv'], i64 (r.restE n)]) ∧ R4 w' (grow Y w) fv' rv' xv' (r.rest n b) its ∧ Upd [] w w' := by
  obtain ⟨fa, fc, ra, rn, rc, xa, xc, rfl, rfl, rfl⟩ := h.shape
  have HF := Lib.hid h.1.cut
  have HX := Lib.hid h.2.cut
  clear h
  refine post fun R hR => ?_
  go_enter Try.func42, Try.ntmps42
  go_upto_region 1 with (fail)
  obtain ⟨A, hA⟩ : ∃ A, A = w.heap.size := ⟨_, rfl⟩
  have hAw : w.heap.size ≤ A := by omega
  have hA1 := heap_alloc_old (heap_alloc_new w (.cells #[.slice fa 9 fc, .slice ra rn rc, .slice xa 9 xc] 81)) (.cells #[.slice none 0 0, .slice none 0 0, .slice none 0 0] 81)
  have hA2 := heap_new2 w (.cells #[.slice fa 9 fc, .slice ra rn rc, .slice xa 9 xc] 81) (.cells #[.slice none 0 0, .slice none 0 0, .slice none 0 0] 81)
  have hu0 := ((Upd.refl [] w).alloc (.cells #[.slice fa 9 fc, .slice ra rn rc, .slice xa 9 xc] 81)).alloc (.cells #[.slice none 0 0, .slice none 0 0, .slice none 0 0] 81)
  rw [← hA] at hA1 hA2 ⊢
  have hYA : ¬ cutZ Y w A := fun q => by have := q.2; omega
  have hYA1 : ¬ cutZ Y w (A + 1) := fun q => by have := q.2; omega
  clear hA
  generalize (w.alloc (.cells #[.slice fa 9 fc, .slice ra rn rc, .slice xa 9 xc] 81)).alloc (.cells #[.slice none 0 0, .slice none 0 0, .slice none 0 0] 81) = w1 at *
  have hs1 := lt_of_heap hA1
  have hs2 := lt_of_heap hA2
  obtain ⟨a0, a1, a2, p0, p1, p2⟩ := cells3 hA1
  obtain ⟨b0, b1, b2, q0, q1, q2⟩ := cells3 hA2
  have HU0 := Lib.hid hu0
  have HGA : Hid (¬ grow (cutZ Y w) w1 A ∧ ¬ grow (cutZ Y w) w1 (A + 1) ∧ ∀ x, grow (cutZ Y w) w1 x → grow Y w x) := Lib.hid ⟨fun q => q.elim hYA (fun q => by omega), fun q => q.elim hYA1 (fun q => by omega), fun x q => q.imp (fun q => q.1) (Nat.le_trans hu0.size)⟩
  clear hu0 hYA hYA1
  have hsc := rrest25_c (HF.out.upd0 HU0.out) hok hsm hK n b
  have HSC := Lib.hid hsc
  clear hsc
  go_wp2_with (fail)
  refine HSC.out.mono ?_
  rintro e w2 ⟨fv2, rv2, rfl, hR2, hu2⟩
  obtain ⟨fa2, fc2, ra2, rn2, rc2, rfl, rfl⟩ := hR2.shape2
  have hB1 := hu2.keep0 hA1
  have hB2 := hu2.keep0 hA2
  have HR2 := Lib.hid hR2
  have HU2 := Lib.hid (HU0.out.trans' hu2)
  have HX2 := Lib.hid (((HX.out.upd0 HU0.out).upd0 hu2).more (fun x q => .inl q) : Rw40 w2 (grow (cutZ Y w) w1) (.slice xa 9 xc) its)
  have hw12 := hu2.size
  clear hA1 hA2 hs1 hs2 a0 a1 a2 p0 p1 p2 b0 b1 b2 q0 q1 q2 hR2 hu2
  have hs1 := lt_of_heap hB1
  have hs2 := lt_of_heap hB2
  obtain ⟨a0, a1, a2, p0, p1, p2⟩ := cells3 hB1
  obtain ⟨b0, b1, b2, q0, q1, q2⟩ := cells3 hB2
  go_upto_region 2 with (fail)
  obtain ⟨X, hX⟩ : ∃ X, X = w2.heap.size := ⟨_, rfl⟩
  have hC1 := heap_alloc_old hB1 (.cells #[.slice fa2 9 fc2, .slice ra2 rn2 rc2] 46)
  have hC2 := heap_alloc_old hB2 (.cells #[.slice fa2 9 fc2, .slice ra2 rn2 rc2] 46)
  have hC3 := heap_alloc_new w2 (.cells #[.slice fa2 9 fc2, .slice ra2 rn2 rc2] 46)
  have hux := (Upd.refl [] w2).alloc (.cells #[.slice fa2 9 fc2, .slice ra2 rn2 rc2] 46)
  have hAX : A + 1 < X := by omega
  rw [← hX] at hC3 ⊢
  clear hX hB1 hB2 hs1 hs2 a0 a1 a2 p0 p1 p2 b0 b1 b2 q0 q1 q2
  generalize w2.alloc (.cells #[.slice fa2 9 fc2, .slice ra2 rn2 rc2] 46) = w3 at *
  have hs1 := lt_of_heap hC1
  have hs2 := lt_of_heap hC2
  have hs3 := lt_of_heap hC3
  obtain ⟨a0, a1, a2, p0, p1, p2⟩ := cells3 hC1
  obtain ⟨b0, b1, b2, q0, q1, q2⟩ := cells3 hC2
  obtain ⟨c0, c1, -⟩ := cells2 hC3
  have HUX := Lib.hid hux
  clear hux
  go_upto_region 3 with (fail)
  have hD1 := hset3_1 (v := .slice ra2 rn2 rc2) (hset3_0 (v := .slice fa2 9 fc2) hC1)
  have hD2 := heap_setCell_ne (c := A) (heap_setCell_ne (c := A) hC2 (by omega) 0 (.slice fa2 9 fc2)) (by omega) 1 (.slice ra2 rn2 rc2)
  have hu4 : Upd [A] w2 ((w3.setCell ⟨A, 0, none⟩ (.slice fa2 9 fc2)).setCell ⟨A, 1, none⟩ (.slice ra2 rn2 rc2)) := (((HUX.out.mono (S' := [A]) (by simp)).setCell (p := ⟨A, 0, none⟩) (by simp) _).setCell (p := ⟨A, 1, none⟩) (by simp) _)
  clear hC1 hC2 hC3 hs1 hs2 hs3 a0 a1 a2 p0 p1 p2 b0 b1 b2 q0 q1 q2 c0 c1 HUX
  generalize (w3.setCell ⟨A, 0, none⟩ (.slice fa2 9 fc2)).setCell ⟨A, 1, none⟩ (.slice ra2 rn2 rc2) = w4 at *
  have HR4 := Lib.hid (HR2.out.upd hu4 (fun x hx => by have := List.mem_singleton.1 hx; subst this; exact HGA.out.1))
  have HX4 := Lib.hid (HX2.out.upd hu4 (fun x hx => by have := List.mem_singleton.1 hx; subst this; exact HGA.out.1))
  have HU4 := Lib.hid (HU2.out.trans hu4 (fun x hx => .inr (by have := List.mem_singleton.1 hx; omega)))
  clear HR2 HX2 HU2 hu4
  have hs1 := lt_of_heap hD1
  have hs2 := lt_of_heap hD2
  obtain ⟨a0, a1, a2, p0, p1, p2⟩ := cells3 hD1
  obtain ⟨b0, b1, b2, q0, q1, q2⟩ := cells3 hD2
  go_wp2_with (fail)
  have hE2 := hset3_2 (v := .slice xa 9 xc) (hset3_1 (v := .slice ra2 rn2 rc2) (hset3_0 (v := .slice fa2 9 fc2) hD2))
  obtain ⟨k0, k1, k2, -⟩ := cells3 hE2
  have hu5 : Upd [A + 1] w4 (((w4.setCell ⟨A + 1, 0, none⟩ (.slice fa2 9 fc2)).setCell ⟨A + 1, 1, none⟩ (.slice ra2 rn2 rc2)).setCell ⟨A + 1, 2, none⟩ (.slice xa 9 xc)) := (((Upd.refl _ _).setCell (p := ⟨A + 1, 0, none⟩) (by simp) _).setCell (p := ⟨A + 1, 1, none⟩) (by simp) _).setCell (p := ⟨A + 1, 2, none⟩) (by simp) _
  clear a0 a1 a2 p0 p1 p2 b0 b1 b2 q0 q1 q2
  refine bodyPost_ret (v := .tuple #[.agg #[.slice fa2 9 fc2, .slice ra2 rn2 rc2, .slice xa 9 xc], i64 (r.restE n)]) (by simp [results, Try.results42, go_sem, *]) rfl ?_
  refine hR.out _ _ ?_
  have hno : ∀ x ∈ [A + 1], ¬ grow (cutZ Y w) w1 x := fun x hx => by have := List.mem_singleton.1 hx; subst this; exact HGA.out.2.1
  exact ⟨_, _, _, rfl, ⟨(HR4.out.upd hu5 hno).more HGA.out.2.2, (HX4.out.upd hu5 hno).more HGA.out.2.2⟩, HU4.out.trans hu5 (fun x hx => .inr (by have := List.mem_singleton.1 hx; omega))⟩

theorem Rw40.rowS (h : Rw40 w Y xv its) : ∃ tv, Sub w 0 85 1 xv 9 (tvl tv) ∧ ∀ n : Int, Sub w 0 68 5 (rowV tv n) (rowI its n).length (ics (rowI its n)) := by
  obtain ⟨tv, h1, -, h3⟩ := h
  refine ⟨tv, h1, fun n => ?_⟩
  unfold rowV rowI
  by_cases hn : 0 ≤ n ∧ n ≤ 8
  · rw [if_pos hn, if_pos hn]; exact (h3 _ (by omega)).1
  · rw [if_neg hn, if_neg hn]; exact sub_nil _ _ _ _

set_option maxRecDepth 100000 in
theorem r4row_c {tv : Nat → Value} (h : Sub w 0 85 1 xv 9 (tvl tv)) (n : Int) {ao : Option Addr} {ln cp : Nat} (hv : rowV tv n = .slice ao ln cp) (fa ra : Option Addr) (fn fc rn rc : Nat) :
    Calls Try.prog 63 #[.agg #[.slice fa fn fc, .slice ra rn rc, xv], i64 n] w fun e w' => e = .returned (.slice ao ln cp) ∧ Upd [] w w' := by
  obtain ⟨xa, xc, rfl, hcap, hx⟩ := h.form
  obtain ⟨g, off, rfl, -, hg, hc⟩ := hx (by omega)
  by_cases h1 : n < 0
  · rw [show rowV tv n = .slice none 0 0 from by unfold rowV; rw [if_neg (by omega)]] at hv
    injection hv with e1 e2 e3
    subst e1; subst e2; subst e3
    clear h hx hc
    refine post fun R hR => ?_
    go_enter Try.func63, Try.ntmps63
    go_wp2_with (fail)
    exact hR.out _ _ ⟨rfl, by (repeat' (first | (with_reducible exact Upd.refl _ _) | (with_reducible assumption) | (with_reducible apply Upd.drew) | (with_reducible apply Upd.drewN) | (with_reducible apply Upd.alloc) | (with_reducible refine Upd.setCell ?_ (by simp) _) | (with_reducible refine Upd.setCell ?_ (by simp; omega) _)))⟩
  · by_cases h2 : 8 < n
    · rw [show rowV tv n = .slice none 0 0 from by unfold rowV; rw [if_neg (by omega)]] at hv
      injection hv with e1 e2 e3
      subst e1; subst e2; subst e3
      clear h hx hc
      refine post fun R hR => ?_
      go_enter Try.func63, Try.ntmps63
      go_wp2_with (fail)
      exact hR.out _ _ ⟨rfl, by (repeat' (first | (with_reducible exact Upd.refl _ _) | (with_reducible assumption) | (with_reducible apply Upd.drew) | (with_reducible apply Upd.drewN) | (with_reducible apply Upd.alloc) | (with_reducible refine Upd.setCell ?_ (by simp) _) | (with_reducible refine Upd.setCell ?_ (by simp; omega) _)))⟩
    · obtain ⟨k, rfl⟩ : ∃ k : Nat, n = k := ⟨n.toNat, by omega⟩
      have hk : k < 9 := by omega
      rw [show rowV tv k = tv k from by unfold rowV; rw [if_pos (by omega)]; rfl] at hv
      have c0 := hc k _ (tvl_get tv hk)
      rw [hv] at c0
      have hn8 : (k : Int) < 9 := by omega
      clear h hx hc
      refine post fun R hR => ?_
      go_enter Try.func63, Try.ntmps63
      go_wp2_with (fail)
      exact hR.out _ _ ⟨rfl, by (repeat' (first | (with_reducible exact Upd.refl _ _) | (with_reducible assumption) | (with_reducible apply Upd.drew) | (with_reducible apply Upd.drewN) | (with_reducible apply Upd.alloc) | (with_reducible refine Upd.setCell ?_ (by simp) _) | (with_reducible refine Upd.setCell ?_ (by simp; omega) _)))⟩
end

theorem rcost05_c (n : Int) (w : World) : Calls Try.prog 65 #[i64 n] w fun e w' => e = .returned (i64 (costN n)) ∧ w = w' := by
  by_cases h1 : n < 0
  · rw [show costN n = 16 from by unfold costN; omega]
    refine post fun R hR => ?_
    go_enter Try.func65, Try.ntmps65
    go_wp2_with (fail)
    exact hR.out _ _ ⟨rfl, rfl⟩
  · by_cases h2 : 1024 < n
    · rw [show costN n = 1040 from by unfold costN; omega]
      refine post fun R hR => ?_
      go_enter Try.func65, Try.ntmps65
      go_wp2_with (fail)
      exact hR.out _ _ ⟨rfl, rfl⟩
    · rw [show costN n = 16 + n from by unfold costN; omega]
      refine post fun R hR => ?_
      go_enter Try.func65, Try.ntmps65
      go_wp2_with (fail)
      exact hR.out _ _ ⟨rfl, rfl⟩

set_option maxRecDepth 100000 in
set_option maxHeartbeats 1000000 in
theorem r4cost_c {w : World} {v : Value} {L : List It} (h : Sub w 0 68 5 v L.length (ics L)) (hl : L.length ≤ 900) (hg : ∀ x ∈ L, x.b.size ≤ maxLen) :
    Calls Try.prog 66 #[v] w fun e w' => e = .returned (i64 (sumC L)) ∧ Upd [] w w' := by
  obtain ⟨ao, cap, rfl, hcap, hrow⟩ := h.form
  have HS := Lib.hid h
  have HG := Lib.hid hg
  have hco := fun n w' => rcost05_c n w'
  have HCO := Lib.hid hco
  clear h hg hco
  by_cases h0 : L.length = 0
  · obtain rfl : L = [] := List.eq_nil_of_length_eq_zero h0
    clear hrow
    refine post fun R hR => ?_
    go_enter Try.func66, Try.ntmps66
    go_wp2_with (fail)
    refine wp_loop_once ?_
    go_wp2_with (fail)
    exact hR.out _ _ ⟨rfl, Upd.refl _ _⟩
  · obtain ⟨g, off, rfl, -, hgl, -⟩ := hrow (by omega)
    refine post fun R hR => ?_
    go_enter Try.func66, Try.ntmps66
    go_wp2_with (fail)
    go_loopw [3, 4] (fun s i wr => ∃ k : Nat, i = i64 k ∧ k ≤ L.length ∧ s = i64 (sumC (L.take k)) ∧ Upd [] w wr) (fun _ i _ => L.length - (intOf i).toNat)
    case atStart => exact ⟨0, rfl, Nat.zero_le _, rfl, Upd.refl _ _⟩
    case round =>
      obtain ⟨k, rfl, hk, rfl, hu⟩ := hrel
      obtain ⟨b1, b2⟩ := sumC_bd (L.take k)
      have hl2 : (L.take k).length ≤ k := List.length_take_le _ _
      by_cases hlt : k < L.length
      · obtain ⟨c0, c1, c2, c3, c4⟩ := its_get (HS.out.upd0 hu) hlt rfl
        have hsn : sumC (L.take (k + 1)) = sumC (L.take k) + costN L[k].b.size := by rw [List.take_succ_eq_append_getElem hlt, sumC_snoc]; rfl
        have hgk := HG.out _ (List.getElem_mem hlt)
        unfold maxLen at hgk
        have HSN := Lib.hid hsn
        have HU := Lib.hid hu
        have hgw : g < wr.heap.size := Nat.lt_of_lt_of_le hgl hu.size
        clear hsn hu c0 c1 c2 c4
        generalize sumC (L.take k) = s at *
        generalize L[k].b = xb at *
        have hcb := costN_bd xb.size
        obtain ⟨q1, q2⟩ := hcb
        generalize hxc : costN xb.size = xc at *
        have HXC := Lib.hid hxc
        clear hxc
        go_wp2_with (fail)
        refine (HCO.out _ _).mono ?_
        rintro e w3 ⟨rfl, rfl⟩
        rw [HXC.out]
        go_wp2_with (fail)
        go_roundw
        case rel => exact ⟨k + 1, by go_num, by omega, by rw [HSN.out], HU.out⟩
        case measure => simp [intOf]; omega
      · have e : k = L.length := by omega
        have he : sumC (L.take k) = sumC L := by rw [e, List.take_length]
        have HE := Lib.hid he
        clear he
        go_wp2_with (fail)
        exact hR.out _ _ ⟨by rw [← HE.out]; rfl, hu⟩
end Go.Proofs.Ytabhdigannalgaa

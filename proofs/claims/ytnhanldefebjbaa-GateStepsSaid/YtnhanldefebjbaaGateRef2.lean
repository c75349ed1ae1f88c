/-
  The contracts of the document's gate (concourseref39): Wrong, Admit, Set. Conditions: its numbers are within their bounds.
-/
import Derived.Test.YtnhanldefebjbaaGateRef
import Derived.Deep.DeepCutAuto
import Derived.Deep.CutBlock
namespace Go.Proofs.Ytnhanldefebjbaa
open Go Go.RowKit

theorem rlimit0_c (n : Int) (w : World) : Calls Try.prog 16 #[i64 n] w fun e w' => e = .returned (i64 (lim n)) ∧ w = w' := by
  refine post fun R hR => ?_
  go_enter Try.func16, Try.ntmps16
  go_wp2
  all_goals exact hR.out _ _ ⟨ret_i (by unfold lim; omega), rfl⟩

set_option maxRecDepth 100000 in
set_option maxHeartbeats 1000000 in
theorem rgwrong_c (g : Gt) (ok : g.ok) (x : Bool) (C : Int) (w : World) : Calls Try.prog 62 #[gv g, .bool x, i64 C] w fun e w' => e = .returned (i64 (if x = true then g.waitE C else g.tokE C)) ∧ Upd [] w w' := by
  have hr1 := fun w => rroom_c g.sl g.st w ok.sl0 ok.st0
  have hr2 := fun w => rroom_c g.ml g.mt w ok.ml0 ok.mt0
  obtain ⟨r, u, t, ml, mt, sl, st, ol, ot, rs⟩ := g
  have hA := heap_alloc_new w (.cells #[i64 r, i64 u, i64 t, i64 ml, i64 mt, i64 sl, i64 st, i64 ol, i64 ot, .bool rs] 79)
  have hu0 := (Upd.refl [] w).alloc (.cells #[i64 r, i64 u, i64 t, i64 ml, i64 mt, i64 sl, i64 st, i64 ol, i64 ot, .bool rs] 79)
  simp only at hr1 hr2
  clear ok
  unfold Gt.waitE Gt.tokE
  simp only
  generalize max (sl - st) 0 = S1 at *
  generalize max (ml - mt) 0 = S2 at *
  have HR1 := Lib.hid hr1
  have HR2 := Lib.hid hr2
  have HA := Lib.hid hA
  have HU := Lib.hid hu0
  clear hr1 hr2 hA hu0
  cases x with
  | false =>
    rw [if_neg (by decide)]
    by_cases h4 : t < C
    · rw [if_pos h4]
      refine post fun R hR => ?_
      go_enter Try.func62, Try.ntmps62
      go_wp2_with (fail)
      exact hR.out _ _ ⟨rfl, HU.out⟩
    · rw [if_neg h4]
      refine post fun R hR => ?_
      go_enter Try.func62, Try.ntmps62
      go_wp2_with (fail)
      exact hR.out _ _ ⟨rfl, HU.out⟩
  | true =>
    rw [if_pos rfl]
    cases rs with
    | true =>
      rw [if_pos rfl]
      refine post fun R hR => ?_
      go_enter Try.func62, Try.ntmps62
      go_wp2_with (fail)
      exact hR.out _ _ ⟨rfl, HU.out⟩
    | false =>
      rw [if_neg (by decide)]
      by_cases h1 : S1 < 1
      · rw [if_pos h1]
        refine post fun R hR => ?_
        go_enter Try.func62, Try.ntmps62
        go_wp2_with (fail)
        refine Calls.mono (HR1.out _) ?_
        rintro e w2 ⟨rfl, hu2⟩
        go_wp2_with (fail)
        exact hR.out _ _ ⟨rfl, HU.out.trans' hu2⟩
      · rw [if_neg h1]
        by_cases h2 : S2 < C
        · rw [if_pos h2]
          refine post fun R hR => ?_
          go_enter Try.func62, Try.ntmps62
          go_wp2_with (fail)
          refine Calls.mono (HR1.out _) ?_
          rintro e w2 ⟨rfl, hu2⟩
          have hA2 := hu2.keep0 HA.out
          obtain ⟨a0, a1, a2, a3, a4, a5, a6, a7, a8, a9, -⟩ := cells10 hA2
          go_wp2_with (fail)
          refine Calls.mono (HR2.out _) ?_
          rintro e w3 ⟨rfl, hu3⟩
          go_wp2_with (fail)
          exact hR.out _ _ ⟨rfl, (HU.out.trans' hu2).trans' hu3⟩
        · rw [if_neg h2]
          by_cases h4 : t < C
          · rw [if_pos h4]
            refine post fun R hR => ?_
            go_enter Try.func62, Try.ntmps62
            go_wp2_with (fail)
            refine Calls.mono (HR1.out _) ?_
            rintro e w2 ⟨rfl, hu2⟩
            have hA2 := hu2.keep0 HA.out
            obtain ⟨a0, a1, a2, a3, a4, a5, a6, a7, a8, a9, -⟩ := cells10 hA2
            go_wp2_with (fail)
            refine Calls.mono (HR2.out _) ?_
            rintro e w3 ⟨rfl, hu3⟩
            have hA3 := hu3.keep0 hA2
            obtain ⟨b0, b1, b2, b3, b4, b5, b6, b7, b8, b9, -⟩ := cells10 hA3
            go_wp2_with (fail)
            exact hR.out _ _ ⟨rfl, (HU.out.trans' hu2).trans' hu3⟩
          · rw [if_neg h4]
            refine post fun R hR => ?_
            go_enter Try.func62, Try.ntmps62
            go_wp2_with (fail)
            refine Calls.mono (HR1.out _) ?_
            rintro e w2 ⟨rfl, hu2⟩
            have hA2 := hu2.keep0 HA.out
            obtain ⟨a0, a1, a2, a3, a4, a5, a6, a7, a8, a9, -⟩ := cells10 hA2
            go_wp2_with (fail)
            refine Calls.mono (HR2.out _) ?_
            rintro e w3 ⟨rfl, hu3⟩
            have hA3 := hu3.keep0 hA2
            obtain ⟨b0, b1, b2, b3, b4, b5, b6, b7, b8, b9, -⟩ := cells10 hA3
            go_wp2_with (fail)
            exact hR.out _ _ ⟨rfl, (HU.out.trans' hu2).trans' hu3⟩

set_option maxRecDepth 100000 in
set_option maxHeartbeats 2000000 in
theorem rgset_c (g : Gt) (ok : g.ok) (c : Cf) (w : World) : Calls Try.prog 50 #[gv g, .agg c.cells] w fun e w' => e = .returned (gv (g.set c)) ∧ Upd [] w w' := by
  have hbt := ok.t0
  have hbu := ok.u0
  have hs := fun w => rbset_c g.r g.u g.t c.rate c.burst w (by omega)
  obtain ⟨r, u, t, ml, mt, sl, st, ol, ot, rs⟩ := g
  obtain ⟨cq, cr, cb, cm, cs, co, cn, ct, cd⟩ := c
  have hA := heap_alloc_old (heap_alloc_old (heap_alloc_new w (.cells #[i64 r, i64 u, i64 t, i64 ml, i64 mt, i64 sl, i64 st, i64 ol, i64 ot, .bool rs] 79)) (.cells #[i64 cq, i64 cr, i64 cb, i64 cm, i64 cs, i64 co, i64 cn, i64 ct, i64 cd] 60)) gz
  have hC := heap_alloc_old (heap_new2 w (.cells #[i64 r, i64 u, i64 t, i64 ml, i64 mt, i64 sl, i64 st, i64 ol, i64 ot, .bool rs] 79) (.cells #[i64 cq, i64 cr, i64 cb, i64 cm, i64 cs, i64 co, i64 cn, i64 ct, i64 cd] 60)) gz
  have hB := heap_new3 w (.cells #[i64 r, i64 u, i64 t, i64 ml, i64 mt, i64 sl, i64 st, i64 ol, i64 ot, .bool rs] 79) (.cells #[i64 cq, i64 cr, i64 cb, i64 cm, i64 cs, i64 co, i64 cn, i64 ct, i64 cd] 60) gz
  have hu0 := (((Upd.refl [] w).alloc (.cells #[i64 r, i64 u, i64 t, i64 ml, i64 mt, i64 sl, i64 st, i64 ol, i64 ot, .bool rs] 79)).alloc (.cells #[i64 cq, i64 cr, i64 cb, i64 cm, i64 cs, i64 co, i64 cn, i64 ct, i64 cd] 60)).alloc gz
  simp only at hs
  clear ok hbt hbu
  unfold Gt.set
  simp only
  generalize clamp cr 1048576 = Rq at *
  generalize clamp cb 1048576 = U at *
  generalize min t U = T at *
  have hl1 := fun w => rlimit0_c cm w
  have hl2 := fun w => rlimit0_c cs w
  have hl3 := fun w => rlimit0_c co w
  generalize lim cm = L1 at *
  generalize lim cs = L2 at *
  generalize lim co = L3 at *
  have HL1 := Lib.hid hl1
  have HL2 := Lib.hid hl2
  have HL3 := Lib.hid hl3
  have HS := Lib.hid hs
  have HA := Lib.hid hA
  have HB := Lib.hid hB
  have HC := Lib.hid hC
  have HU := Lib.hid hu0
  have HB : Hid ((((w.alloc (.cells #[i64 r, i64 u, i64 t, i64 ml, i64 mt, i64 sl, i64 st, i64 ol, i64 ot, .bool rs] 79)).alloc (.cells #[i64 cq, i64 cr, i64 cb, i64 cm, i64 cs, i64 co, i64 cn, i64 ct, i64 cd] 60)).alloc gz).heap[w.heap.size + 1 + 1]? = some gz) := HB
  clear hl1 hl2 hl3 hs hA hB hC hu0
  refine post fun R hR => ?_
  go_enter Try.func50, Try.ntmps50
  go_wp2_with (fail)
  refine Calls.mono (HS.out _) ?_
  rintro e w2 ⟨rfl, hu⟩
  have hA2 := hu.keep0 HA.out
  have hB2 := hu.keep0 HB.out
  have hC2 := hu.keep0 HC.out
  have hx2 := HU.out.trans' hu
  clear hu HA HB HC HU
  obtain ⟨a0, a1, a2, -, -, -, -, -, -, -, y0, y1, y2, -⟩ := cells10 hA2
  go_upto_region 2 with (fail)
  have hA3 := (hset10_2 (v := i64 T) (hset10_1 (v := i64 U) (hset10_0 (v := i64 Rq) hA2)))
  have hB3 := (heap_setCell_ne (c := w.heap.size) (heap_setCell_ne (c := w.heap.size) (heap_setCell_ne (c := w.heap.size) hB2 (by omega) 0 (i64 Rq)) (by omega) 1 (i64 U)) (by omega) 2 (i64 T))
  have hC3 := (heap_setCell_ne (c := w.heap.size) (heap_setCell_ne (c := w.heap.size) (heap_setCell_ne (c := w.heap.size) hC2 (by omega) 0 (i64 Rq)) (by omega) 1 (i64 U)) (by omega) 2 (i64 T))
  have hx3 := (((hx2.setCell (p := ⟨w.heap.size, 0, none⟩) (.inr (Nat.le_refl _)) (i64 Rq)).setCell (p := ⟨w.heap.size, 1, none⟩) (.inr (Nat.le_refl _)) (i64 U)).setCell (p := ⟨w.heap.size, 2, none⟩) (.inr (Nat.le_refl _)) (i64 T))
  clear a0 a1 a2 y0 y1 y2
  generalize (((w2.setCell ⟨w.heap.size, 0, none⟩ (i64 Rq)).setCell ⟨w.heap.size, 1, none⟩ (i64 U)).setCell ⟨w.heap.size, 2, none⟩ (i64 T)) = w3 at *
  clear hA2 hB2 hC2 hx2
  have a3 := cellOf hA3 3
  have y3 := frzOf hA3 3
  have e3 := cellOf hC3 3
  go_wp2_with (fail)
  refine Calls.mono (HL1.out _) ?_
  rintro e wx ⟨rfl, rfl⟩
  go_upto_region 3 with (fail)
  have hA4 := (hset10_3 (v := i64 L1) hA3)
  have hB4 := (heap_setCell_ne (c := w.heap.size) hB3 (by omega) 3 (i64 L1))
  have hC4 := (heap_setCell_ne (c := w.heap.size) hC3 (by omega) 3 (i64 L1))
  have hx4 := (hx3.setCell (p := ⟨w.heap.size, 3, none⟩) (.inr (Nat.le_refl _)) (i64 L1))
  clear a3 y3 e3
  generalize (w3.setCell ⟨w.heap.size, 3, none⟩ (i64 L1)) = w4 at *
  clear hA3 hB3 hC3 hx3
  have a5 := cellOf hA4 5
  have y5 := frzOf hA4 5
  have e4 := cellOf hC4 4
  go_wp2_with (fail)
  refine Calls.mono (HL2.out _) ?_
  rintro e wx ⟨rfl, rfl⟩
  go_upto_region 4 with (fail)
  have hA5 := (hset10_5 (v := i64 L2) hA4)
  have hB5 := (heap_setCell_ne (c := w.heap.size) hB4 (by omega) 5 (i64 L2))
  have hC5 := (heap_setCell_ne (c := w.heap.size) hC4 (by omega) 5 (i64 L2))
  have hx5 := (hx4.setCell (p := ⟨w.heap.size, 5, none⟩) (.inr (Nat.le_refl _)) (i64 L2))
  clear a5 y5 e4
  generalize (w4.setCell ⟨w.heap.size, 5, none⟩ (i64 L2)) = w5 at *
  clear hA4 hB4 hC4 hx4
  have a7 := cellOf hA5 7
  have y7 := frzOf hA5 7
  have e5 := cellOf hC5 5
  go_wp2_with (fail)
  refine Calls.mono (HL3.out _) ?_
  rintro e wx ⟨rfl, rfl⟩
  go_upto_region 5 with (fail)
  have hA6 := (hset10_7 (v := i64 L3) hA5)
  have hB6 := (heap_setCell_ne (c := w.heap.size) hB5 (by omega) 7 (i64 L3))
  have hC6 := (heap_setCell_ne (c := w.heap.size) hC5 (by omega) 7 (i64 L3))
  have hx6 := (hx5.setCell (p := ⟨w.heap.size, 7, none⟩) (.inr (Nat.le_refl _)) (i64 L3))
  clear a7 y7 e5
  generalize (w5.setCell ⟨w.heap.size, 7, none⟩ (i64 L3)) = w6 at *
  clear hA5 hB5 hC5 hx5
  obtain ⟨a0, a1, a2, a3, a4, a5, a6, a7, a8, a9, -⟩ := cells10 hA6
  obtain ⟨b0, b1, b2, b3, b4, b5, b6, b7, b8, b9, z0, z1, z2, z3, z4, z5, z6, z7, z8, z9⟩ := cells10 hB6
  have hfin := (hset10_9 (v := .bool rs) (hset10_8 (v := i64 ot) (hset10_7 (v := i64 L3) (hset10_6 (v := i64 st) (hset10_5 (v := i64 L2) (hset10_4 (v := i64 mt) (hset10_3 (v := i64 L1) (hset10_2 (v := i64 T) (hset10_1 (v := i64 U) (hset10_0 (v := i64 Rq) hB6))))))))))
  have hxf := ((((((((((hx6.setCell (p := ⟨w.heap.size + 1 + 1, 0, none⟩) (.inr (by show w.heap.size ≤ w.heap.size + 1 + 1; omega)) (i64 Rq)).setCell (p := ⟨w.heap.size + 1 + 1, 1, none⟩) (.inr (by show w.heap.size ≤ w.heap.size + 1 + 1; omega)) (i64 U)).setCell (p := ⟨w.heap.size + 1 + 1, 2, none⟩) (.inr (by show w.heap.size ≤ w.heap.size + 1 + 1; omega)) (i64 T)).setCell (p := ⟨w.heap.size + 1 + 1, 3, none⟩) (.inr (by show w.heap.size ≤ w.heap.size + 1 + 1; omega)) (i64 L1)).setCell (p := ⟨w.heap.size + 1 + 1, 4, none⟩) (.inr (by show w.heap.size ≤ w.heap.size + 1 + 1; omega)) (i64 mt)).setCell (p := ⟨w.heap.size + 1 + 1, 5, none⟩) (.inr (by show w.heap.size ≤ w.heap.size + 1 + 1; omega)) (i64 L2)).setCell (p := ⟨w.heap.size + 1 + 1, 6, none⟩) (.inr (by show w.heap.size ≤ w.heap.size + 1 + 1; omega)) (i64 st)).setCell (p := ⟨w.heap.size + 1 + 1, 7, none⟩) (.inr (by show w.heap.size ≤ w.heap.size + 1 + 1; omega)) (i64 L3)).setCell (p := ⟨w.heap.size + 1 + 1, 8, none⟩) (.inr (by show w.heap.size ≤ w.heap.size + 1 + 1; omega)) (i64 ot)).setCell (p := ⟨w.heap.size + 1 + 1, 9, none⟩) (.inr (by show w.heap.size ≤ w.heap.size + 1 + 1; omega)) (.bool rs))
  have HFIN := Lib.hid hfin
  have HXF := Lib.hid hxf
  clear hfin hxf hA6 hB6 hC6 hx6
  go_wp2_with (fail)
  clear a0 a1 a2 a3 a4 a5 a6 a7 a8 a9 b0 b1 b2 b3 b4 b5 b6 b7 b8 b9 z0 z1 z2 z3 z4 z5 z6 z7 z8 z9
  have hfin := HFIN.out
  have hxf := HXF.out
  generalize ((((((((((w6.setCell ⟨w.heap.size + 1 + 1, 0, none⟩ (i64 Rq)).setCell ⟨w.heap.size + 1 + 1, 1, none⟩ (i64 U)).setCell ⟨w.heap.size + 1 + 1, 2, none⟩ (i64 T)).setCell ⟨w.heap.size + 1 + 1, 3, none⟩ (i64 L1)).setCell ⟨w.heap.size + 1 + 1, 4, none⟩ (i64 mt)).setCell ⟨w.heap.size + 1 + 1, 5, none⟩ (i64 L2)).setCell ⟨w.heap.size + 1 + 1, 6, none⟩ (i64 st)).setCell ⟨w.heap.size + 1 + 1, 7, none⟩ (i64 L3)).setCell ⟨w.heap.size + 1 + 1, 8, none⟩ (i64 ot)).setCell ⟨w.heap.size + 1 + 1, 9, none⟩ (.bool rs)) = w7 at *
  obtain ⟨d0, d1, d2, d3, d4, d5, d6, d7, d8, d9, -⟩ := cells10 hfin
  refine bodyPost_ret (v := .agg #[i64 Rq, i64 U, i64 T, i64 L1, i64 mt, i64 L2, i64 st, i64 L3, i64 ot, .bool rs]) (by simp [results, Try.results50, go_sem, *]) rfl ?_
  refine hR.out _ _ ?_
  exact ⟨rfl, hxf⟩
end Go.Proofs.Ytnhanldefebjbaa

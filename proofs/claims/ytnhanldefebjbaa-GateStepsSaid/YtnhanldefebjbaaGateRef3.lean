/-
  The contract of the document's gate's Admit (concourseref39). Conditions: its numbers are within their bounds.
-/
import Derived.Test.YtnhanldefebjbaaGateRef2
namespace Go.Proofs.Ytnhanldefebjbaa
open Go Go.RowKit

set_option maxRecDepth 100000 in
set_option maxHeartbeats 2000000 in
theorem rgadmitIn_c (g : Gt) (ok : g.ok) (k n : Int) (hf : g.full k = false) (w : World) : Calls Try.prog 45 #[gv g, i64 k, i64 n] w fun e w' => e = .returned (.tuple #[gv ((g.base k).inG k n), i64 ((g.base k).inE k n), .bool (decide (k ≠ 3))]) ∧ Upd [] w w' := by
  have hrr := fun w => rroom_c g.ol g.ot w ok.ol0 ok.ot0
  have hokb := ok.base k
  have hbase : g.base k = if k = 3 then g else g.owed := rfl
  have hk3 : (k != 3) = decide (k ≠ 3) := by rw [Bool.eq_iff_iff]; simp
  have HK3 := Lib.hid hk3
  have HBASE := Lib.hid hbase
  have HFULL := Lib.hid hf
  have HRR := Lib.hid hrr
  have HOK := Lib.hid ok
  have HOKB := Lib.hid hokb
  have hA := heap_alloc_old (heap_alloc_new w (.cells g.cells 79)) gz
  have hB := heap_new2 w (.cells g.cells 79) gz
  have hu0 := ((Upd.refl [] w).alloc (.cells g.cells 79)).alloc gz
  have HA := Lib.hid hA
  have HB := Lib.hid hB
  have HU := Lib.hid hu0
  clear hrr hokb hbase hf ok hA hB hu0 hk3
  refine post fun R hR => ?_
  go_enter Try.func45, Try.ntmps45
  go_upto_if 15 with (fail)
  generalize hO : (k != 3) = O
  have HO := Lib.hid hO
  clear hO
  go_cut [] (fun wc => wc.heap[w.heap.size]? = some (.cells (g.base k).cells 79 (0, 0)) ∧ wc.heap[w.heap.size + 1]? = some gz ∧ Upd [] w wc)
  case first =>
    cases O with
    | false =>
      have h3 : k = 3 := by have := HO.out; simpa using this
      have hbe : g.base k = g := by rw [HBASE.out, if_pos h3]
      have HBE := Lib.hid hbe
      have H3 := Lib.hid h3
      clear h3 hbe
      go_wp2_with (fail)
      go_meet
      case rel => rw [HBE.out]; exact ⟨HA.out, HB.out, HU.out⟩
    | true =>
      have h3 : ¬ k = 3 := by have := HO.out; simpa using this
      have hot : g.ot < g.ol := by
        have := HFULL.out
        unfold Gt.full Gt.oweB at this
        simpa [h3] using this
      have hbe : g.base k = { g with ot := g.ot + 1 } := by rw [HBASE.out, if_neg h3]; unfold Gt.owed; rw [if_pos hot]
      have o1 := HOK.out.ot0
      have o2 := HOK.out.ol0
      obtain ⟨o11, o12⟩ := o1
      obtain ⟨o21, o22⟩ := o2
      have hmx : max (g.ol - g.ot) 0 = g.ol - g.ot := by omega
      rw [hmx] at HRR
      have HBE := Lib.hid hbe
      have H3 := Lib.hid h3
      clear h3 hbe hmx
      go_wp2_with (fail)
      refine Calls.mono (HRR.out _) ?_
      rintro e w2 ⟨rfl, hu2⟩
      have hA2 := hu2.keep0 HA.out
      have hB2 := hu2.keep0 HB.out
      have hx2 := HU.out.trans' hu2
      have a8 := cellOf hA2 8
      have y8 := frzOf hA2 8
      have HA2 := Lib.hid hA2
      have HB2 := Lib.hid hB2
      have HX2 := Lib.hid hx2
      clear hA2 hB2 hx2 hu2
      go_wp2_with (fail)
      go_meet
      case rel =>
        rw [HBE.out]
        exact ⟨hset10_8 HA2.out, heap_setCell_ne (c := w.heap.size) HB2.out (by omega) _ _, HX2.out.setCell (.inr (Nat.le_refl _)) _⟩
  case rest =>
    obtain ⟨hA2, hB2, hx2⟩ := hcut
    clear HA HB HU HRR HOK HFULL HBASE
    have hwr := fun w => rgwrong_c (g.base k) HOKB.out (asksB k) (costN n) w
    have has := fun w => rasks_c k w
    have hco := fun w => rcost_c n w
    have hE0 : (if asksB k = true then (g.base k).waitE (costN n) else (g.base k).tokE (costN n)) = (g.base k).inE k n := rfl
    rw [hE0] at hwr
    have hbt := HOKB.out.t0
    have hbu := HOKB.out.u0
    have hbm := HOKB.out.mt0
    have hbs := HOKB.out.st0
    generalize g.base k = bb at *
    obtain ⟨t1, t2⟩ := hbt
    obtain ⟨u1, u2⟩ := hbu
    obtain ⟨m1, m2⟩ := hbm
    obtain ⟨s1, s2⟩ := hbs
    have hcb := costN_bd n
    have hgw : bb.inE k n = 0 → asksB k = true → bb.inG k n = { bb with t := bb.t - costN n, mt := bb.mt + costN n, st := bb.st + 1 } := fun h1 h2 => by
      unfold Gt.inE at h1
      rw [if_pos h2] at h1
      unfold Gt.inG Gt.waited
      rw [if_pos h2, if_pos h1]
    have hgt : bb.inE k n = 0 → ¬ asksB k = true → bb.inG k n = { bb with t := bb.t - costN n } := fun h1 h2 => by
      unfold Gt.inE at h1
      rw [if_neg h2] at h1
      unfold Gt.tokE at h1
      unfold Gt.inG Gt.toked
      rw [if_neg h2]
      split at h1
      · cases h1
      · rename_i h3; rw [if_neg h3]
    have hgb : bb.inE k n ≠ 0 → bb.inG k n = bb := fun h1 => by
      unfold Gt.inE at h1
      unfold Gt.inG
      by_cases h2 : asksB k = true
      · rw [if_pos h2] at h1 ⊢
        unfold Gt.waited
        rw [if_neg h1]
      · rw [if_neg h2] at h1 ⊢
        unfold Gt.tokE at h1
        unfold Gt.toked
        split at h1
        · rename_i h3; rw [if_pos h3]
        · exact (h1 rfl).elim
    generalize hGe : bb.inG k n = GG at *
    generalize hEe : bb.inE k n = EE at *
    generalize costN n = C at *
    obtain ⟨c1, c2⟩ := hcb
    have HAS := Lib.hid has
    have HCO := Lib.hid hco
    clear has hco hGe hEe hE0
    obtain ⟨a0, a1, a2, a3, a4, a5, a6, a7, a8, a9, -⟩ := cells10 hA2
    go_wp2_with (fail)
    refine Calls.mono (HAS.out _) ?_
    rintro e wx ⟨rfl, rfl⟩
    go_wp2_with (fail)
    refine Calls.mono (HCO.out _) ?_
    rintro e wx ⟨rfl, rfl⟩
    by_cases hE : EE = 0
    · by_cases hak : asksB k = true
      · have HG := Lib.hid (hgw hE hak)
        rw [hE, hak] at hwr
        rw [hak]
        have HWR := Lib.hid hwr
        have HEE := Lib.hid hE
        clear hgw hgt hgb hE hak hwr HAS HCO
        go_wp2_with (fail)
        refine Calls.mono (HWR.out _) ?_
        rintro e w3 ⟨rfl, hu3⟩
        have hA3 := hu3.keep0 hA2
        have hB3 := hu3.keep0 hB2
        have hx3 := hx2.trans' hu3
        clear hu3 hA2 hB2 hx2
        obtain ⟨a0, a1, a2, a3, a4, a5, a6, a7, a8, a9, y0, y1, y2, y3, y4, y5, y6, y7, y8, y9⟩ := cells10 hA3
        obtain ⟨b0, b1, b2, b3, b4, b5, b6, b7, b8, b9, z0, z1, z2, z3, z4, z5, z6, z7, z8, z9⟩ := cells10 hB3
        have hfin := (hset10_9 (v := .bool bb.rests) (hset10_8 (v := i64 bb.ot) (hset10_7 (v := i64 bb.ol) (hset10_6 (v := i64 (bb.st + 1)) (hset10_5 (v := i64 bb.sl) (hset10_4 (v := i64 (bb.mt + C)) (hset10_3 (v := i64 bb.ml) (hset10_2 (v := i64 (bb.t - C)) (hset10_1 (v := i64 bb.u) (hset10_0 (v := i64 bb.r) (heap_setCell_ne (c := w.heap.size) (heap_setCell_ne (c := w.heap.size) (heap_setCell_ne (c := w.heap.size) hB3 (by omega) 2 (i64 (bb.t - C))) (by omega) 4 (i64 (bb.mt + C))) (by omega) 6 (i64 (bb.st + 1)))))))))))))
        have hxf := (((((((((((((hx3.setCell (p := ⟨w.heap.size, 2, none⟩) (.inr (Nat.le_refl _)) (i64 (bb.t - C))).setCell (p := ⟨w.heap.size, 4, none⟩) (.inr (Nat.le_refl _)) (i64 (bb.mt + C))).setCell (p := ⟨w.heap.size, 6, none⟩) (.inr (Nat.le_refl _)) (i64 (bb.st + 1))).setCell (p := ⟨w.heap.size + 1, 0, none⟩) (.inr (by show w.heap.size ≤ w.heap.size + 1; omega)) (i64 bb.r)).setCell (p := ⟨w.heap.size + 1, 1, none⟩) (.inr (by show w.heap.size ≤ w.heap.size + 1; omega)) (i64 bb.u)).setCell (p := ⟨w.heap.size + 1, 2, none⟩) (.inr (by show w.heap.size ≤ w.heap.size + 1; omega)) (i64 (bb.t - C))).setCell (p := ⟨w.heap.size + 1, 3, none⟩) (.inr (by show w.heap.size ≤ w.heap.size + 1; omega)) (i64 bb.ml)).setCell (p := ⟨w.heap.size + 1, 4, none⟩) (.inr (by show w.heap.size ≤ w.heap.size + 1; omega)) (i64 (bb.mt + C))).setCell (p := ⟨w.heap.size + 1, 5, none⟩) (.inr (by show w.heap.size ≤ w.heap.size + 1; omega)) (i64 bb.sl)).setCell (p := ⟨w.heap.size + 1, 6, none⟩) (.inr (by show w.heap.size ≤ w.heap.size + 1; omega)) (i64 (bb.st + 1))).setCell (p := ⟨w.heap.size + 1, 7, none⟩) (.inr (by show w.heap.size ≤ w.heap.size + 1; omega)) (i64 bb.ol)).setCell (p := ⟨w.heap.size + 1, 8, none⟩) (.inr (by show w.heap.size ≤ w.heap.size + 1; omega)) (i64 bb.ot)).setCell (p := ⟨w.heap.size + 1, 9, none⟩) (.inr (by show w.heap.size ≤ w.heap.size + 1; omega)) (.bool bb.rests))
        have HFIN := Lib.hid hfin
        have HXF := Lib.hid hxf
        clear hfin hxf hA3 hB3 hx3
        go_wp2_with (fail)
        clear a0 a1 a2 a3 a4 a5 a6 a7 a8 a9 y0 y1 y2 y3 y4 y5 y6 y7 y8 y9 b0 b1 b2 b3 b4 b5 b6 b7 b8 b9 z0 z1 z2 z3 z4 z5 z6 z7 z8 z9
        have hfin := HFIN.out
        have hxf := HXF.out
        clear HFIN HXF
        generalize (((((((((((((w3.setCell ⟨w.heap.size, 2, none⟩ (i64 (bb.t - C))).setCell ⟨w.heap.size, 4, none⟩ (i64 (bb.mt + C))).setCell ⟨w.heap.size, 6, none⟩ (i64 (bb.st + 1))).setCell ⟨w.heap.size + 1, 0, none⟩ (i64 bb.r)).setCell ⟨w.heap.size + 1, 1, none⟩ (i64 bb.u)).setCell ⟨w.heap.size + 1, 2, none⟩ (i64 (bb.t - C))).setCell ⟨w.heap.size + 1, 3, none⟩ (i64 bb.ml)).setCell ⟨w.heap.size + 1, 4, none⟩ (i64 (bb.mt + C))).setCell ⟨w.heap.size + 1, 5, none⟩ (i64 bb.sl)).setCell ⟨w.heap.size + 1, 6, none⟩ (i64 (bb.st + 1))).setCell ⟨w.heap.size + 1, 7, none⟩ (i64 bb.ol)).setCell ⟨w.heap.size + 1, 8, none⟩ (i64 bb.ot)).setCell ⟨w.heap.size + 1, 9, none⟩ (.bool bb.rests)) = w7 at *
        obtain ⟨d0, d1, d2, d3, d4, d5, d6, d7, d8, d9, -⟩ := cells10 hfin
        rw [show O = decide (k ≠ 3) from HO.out.symm.trans HK3.out]
        refine bodyPost_ret (v := .tuple #[.agg #[i64 bb.r, i64 bb.u, i64 (bb.t - C), i64 bb.ml, i64 (bb.mt + C), i64 bb.sl, i64 (bb.st + 1), i64 bb.ol, i64 bb.ot, .bool bb.rests], i64 0, .bool (decide (k ≠ 3))]) (by simp [results, Try.results45, go_sem, *]) rfl ?_
        refine hR.out _ _ ?_
        exact ⟨by rw [HG.out, HEE.out], hxf⟩
      · have hak' : asksB k = false := by simpa using hak
        have HG := Lib.hid (hgt hE hak)
        rw [hE, hak'] at hwr
        rw [hak']
        have HWR := Lib.hid hwr
        have HEE := Lib.hid hE
        clear hgw hgt hgb hE hak hak' hwr HAS HCO
        go_wp2_with (fail)
        refine Calls.mono (HWR.out _) ?_
        rintro e w3 ⟨rfl, hu3⟩
        have hA3 := hu3.keep0 hA2
        have hB3 := hu3.keep0 hB2
        have hx3 := hx2.trans' hu3
        clear hu3 hA2 hB2 hx2
        obtain ⟨a0, a1, a2, a3, a4, a5, a6, a7, a8, a9, y0, y1, y2, y3, y4, y5, y6, y7, y8, y9⟩ := cells10 hA3
        obtain ⟨b0, b1, b2, b3, b4, b5, b6, b7, b8, b9, z0, z1, z2, z3, z4, z5, z6, z7, z8, z9⟩ := cells10 hB3
        have hfin := (hset10_9 (v := .bool bb.rests) (hset10_8 (v := i64 bb.ot) (hset10_7 (v := i64 bb.ol) (hset10_6 (v := i64 bb.st) (hset10_5 (v := i64 bb.sl) (hset10_4 (v := i64 bb.mt) (hset10_3 (v := i64 bb.ml) (hset10_2 (v := i64 (bb.t - C)) (hset10_1 (v := i64 bb.u) (hset10_0 (v := i64 bb.r) (heap_setCell_ne (c := w.heap.size) hB3 (by omega) 2 (i64 (bb.t - C)))))))))))))
        have hxf := (((((((((((hx3.setCell (p := ⟨w.heap.size, 2, none⟩) (.inr (Nat.le_refl _)) (i64 (bb.t - C))).setCell (p := ⟨w.heap.size + 1, 0, none⟩) (.inr (by show w.heap.size ≤ w.heap.size + 1; omega)) (i64 bb.r)).setCell (p := ⟨w.heap.size + 1, 1, none⟩) (.inr (by show w.heap.size ≤ w.heap.size + 1; omega)) (i64 bb.u)).setCell (p := ⟨w.heap.size + 1, 2, none⟩) (.inr (by show w.heap.size ≤ w.heap.size + 1; omega)) (i64 (bb.t - C))).setCell (p := ⟨w.heap.size + 1, 3, none⟩) (.inr (by show w.heap.size ≤ w.heap.size + 1; omega)) (i64 bb.ml)).setCell (p := ⟨w.heap.size + 1, 4, none⟩) (.inr (by show w.heap.size ≤ w.heap.size + 1; omega)) (i64 bb.mt)).setCell (p := ⟨w.heap.size + 1, 5, none⟩) (.inr (by show w.heap.size ≤ w.heap.size + 1; omega)) (i64 bb.sl)).setCell (p := ⟨w.heap.size + 1, 6, none⟩) (.inr (by show w.heap.size ≤ w.heap.size + 1; omega)) (i64 bb.st)).setCell (p := ⟨w.heap.size + 1, 7, none⟩) (.inr (by show w.heap.size ≤ w.heap.size + 1; omega)) (i64 bb.ol)).setCell (p := ⟨w.heap.size + 1, 8, none⟩) (.inr (by show w.heap.size ≤ w.heap.size + 1; omega)) (i64 bb.ot)).setCell (p := ⟨w.heap.size + 1, 9, none⟩) (.inr (by show w.heap.size ≤ w.heap.size + 1; omega)) (.bool bb.rests))
        have HFIN := Lib.hid hfin
        have HXF := Lib.hid hxf
        clear hfin hxf hA3 hB3 hx3
        go_wp2_with (fail)
        clear a0 a1 a2 a3 a4 a5 a6 a7 a8 a9 y0 y1 y2 y3 y4 y5 y6 y7 y8 y9 b0 b1 b2 b3 b4 b5 b6 b7 b8 b9 z0 z1 z2 z3 z4 z5 z6 z7 z8 z9
        have hfin := HFIN.out
        have hxf := HXF.out
        clear HFIN HXF
        generalize (((((((((((w3.setCell ⟨w.heap.size, 2, none⟩ (i64 (bb.t - C))).setCell ⟨w.heap.size + 1, 0, none⟩ (i64 bb.r)).setCell ⟨w.heap.size + 1, 1, none⟩ (i64 bb.u)).setCell ⟨w.heap.size + 1, 2, none⟩ (i64 (bb.t - C))).setCell ⟨w.heap.size + 1, 3, none⟩ (i64 bb.ml)).setCell ⟨w.heap.size + 1, 4, none⟩ (i64 bb.mt)).setCell ⟨w.heap.size + 1, 5, none⟩ (i64 bb.sl)).setCell ⟨w.heap.size + 1, 6, none⟩ (i64 bb.st)).setCell ⟨w.heap.size + 1, 7, none⟩ (i64 bb.ol)).setCell ⟨w.heap.size + 1, 8, none⟩ (i64 bb.ot)).setCell ⟨w.heap.size + 1, 9, none⟩ (.bool bb.rests)) = w7 at *
        obtain ⟨d0, d1, d2, d3, d4, d5, d6, d7, d8, d9, -⟩ := cells10 hfin
        rw [show O = decide (k ≠ 3) from HO.out.symm.trans HK3.out]
        refine bodyPost_ret (v := .tuple #[.agg #[i64 bb.r, i64 bb.u, i64 (bb.t - C), i64 bb.ml, i64 bb.mt, i64 bb.sl, i64 bb.st, i64 bb.ol, i64 bb.ot, .bool bb.rests], i64 0, .bool (decide (k ≠ 3))]) (by simp [results, Try.results45, go_sem, *]) rfl ?_
        refine hR.out _ _ ?_
        exact ⟨by rw [HG.out, HEE.out], hxf⟩
    · have HG := Lib.hid (hgb hE)
      have HWR := Lib.hid hwr
      have hq : (EE != 0) = true := by simpa using hE
      clear hgw hgt hgb hE hwr HAS HCO
      go_wp2_with (fail)
      refine Calls.mono (HWR.out _) ?_
      rintro e w3 ⟨rfl, hu3⟩
      have hA3 := hu3.keep0 hA2
      have hB3 := hu3.keep0 hB2
      have hx3 := hx2.trans' hu3
      clear hu3 hA2 hB2 hx2
      obtain ⟨a0, a1, a2, a3, a4, a5, a6, a7, a8, a9, y0, y1, y2, y3, y4, y5, y6, y7, y8, y9⟩ := cells10 hA3
      obtain ⟨b0, b1, b2, b3, b4, b5, b6, b7, b8, b9, z0, z1, z2, z3, z4, z5, z6, z7, z8, z9⟩ := cells10 hB3
      have hfin := (hset10_9 (v := .bool bb.rests) (hset10_8 (v := i64 bb.ot) (hset10_7 (v := i64 bb.ol) (hset10_6 (v := i64 bb.st) (hset10_5 (v := i64 bb.sl) (hset10_4 (v := i64 bb.mt) (hset10_3 (v := i64 bb.ml) (hset10_2 (v := i64 bb.t) (hset10_1 (v := i64 bb.u) (hset10_0 (v := i64 bb.r) hB3))))))))))
      have hxf := ((((((((((hx3.setCell (p := ⟨w.heap.size + 1, 0, none⟩) (.inr (by show w.heap.size ≤ w.heap.size + 1; omega)) (i64 bb.r)).setCell (p := ⟨w.heap.size + 1, 1, none⟩) (.inr (by show w.heap.size ≤ w.heap.size + 1; omega)) (i64 bb.u)).setCell (p := ⟨w.heap.size + 1, 2, none⟩) (.inr (by show w.heap.size ≤ w.heap.size + 1; omega)) (i64 bb.t)).setCell (p := ⟨w.heap.size + 1, 3, none⟩) (.inr (by show w.heap.size ≤ w.heap.size + 1; omega)) (i64 bb.ml)).setCell (p := ⟨w.heap.size + 1, 4, none⟩) (.inr (by show w.heap.size ≤ w.heap.size + 1; omega)) (i64 bb.mt)).setCell (p := ⟨w.heap.size + 1, 5, none⟩) (.inr (by show w.heap.size ≤ w.heap.size + 1; omega)) (i64 bb.sl)).setCell (p := ⟨w.heap.size + 1, 6, none⟩) (.inr (by show w.heap.size ≤ w.heap.size + 1; omega)) (i64 bb.st)).setCell (p := ⟨w.heap.size + 1, 7, none⟩) (.inr (by show w.heap.size ≤ w.heap.size + 1; omega)) (i64 bb.ol)).setCell (p := ⟨w.heap.size + 1, 8, none⟩) (.inr (by show w.heap.size ≤ w.heap.size + 1; omega)) (i64 bb.ot)).setCell (p := ⟨w.heap.size + 1, 9, none⟩) (.inr (by show w.heap.size ≤ w.heap.size + 1; omega)) (.bool bb.rests))
      have HFIN := Lib.hid hfin
      have HXF := Lib.hid hxf
      clear hfin hxf hA3 hB3 hx3
      go_wp2_with (fail)
      clear a0 a1 a2 a3 a4 a5 a6 a7 a8 a9 y0 y1 y2 y3 y4 y5 y6 y7 y8 y9 b0 b1 b2 b3 b4 b5 b6 b7 b8 b9 z0 z1 z2 z3 z4 z5 z6 z7 z8 z9
      have hfin := HFIN.out
      have hxf := HXF.out
      clear HFIN HXF
      generalize ((((((((((w3.setCell ⟨w.heap.size + 1, 0, none⟩ (i64 bb.r)).setCell ⟨w.heap.size + 1, 1, none⟩ (i64 bb.u)).setCell ⟨w.heap.size + 1, 2, none⟩ (i64 bb.t)).setCell ⟨w.heap.size + 1, 3, none⟩ (i64 bb.ml)).setCell ⟨w.heap.size + 1, 4, none⟩ (i64 bb.mt)).setCell ⟨w.heap.size + 1, 5, none⟩ (i64 bb.sl)).setCell ⟨w.heap.size + 1, 6, none⟩ (i64 bb.st)).setCell ⟨w.heap.size + 1, 7, none⟩ (i64 bb.ol)).setCell ⟨w.heap.size + 1, 8, none⟩ (i64 bb.ot)).setCell ⟨w.heap.size + 1, 9, none⟩ (.bool bb.rests)) = w7 at *
      obtain ⟨d0, d1, d2, d3, d4, d5, d6, d7, d8, d9, -⟩ := cells10 hfin
      rw [show O = decide (k ≠ 3) from HO.out.symm.trans HK3.out]
      refine bodyPost_ret (v := .tuple #[.agg #[i64 bb.r, i64 bb.u, i64 bb.t, i64 bb.ml, i64 bb.mt, i64 bb.sl, i64 bb.st, i64 bb.ol, i64 bb.ot, .bool bb.rests], i64 EE, .bool (decide (k ≠ 3))]) (by simp [results, Try.results45, go_sem, *]) rfl ?_
      refine hR.out _ _ ?_
      exact ⟨by rw [HG.out], hxf⟩

set_option maxRecDepth 100000 in
set_option maxHeartbeats 2000000 in
theorem rgadmitFull_c (g : Gt) (ok : g.ok) (k n : Int) (hf : g.full k = true) (w : World) : Calls Try.prog 45 #[gv g, i64 k, i64 n] w fun e w' => e = .returned (.tuple #[gv g, i64 13, .bool false]) ∧ Upd [] w w' := by
  have hrr := fun w => rroom_c g.ol g.ot w ok.ol0 ok.ot0
  have h3 : ¬ k = 3 := fun e => by subst e; simp [Gt.full] at hf
  have hot : ¬ g.ot < g.ol := by
    unfold Gt.full Gt.oweB at hf
    simpa [h3] using hf
  have hmx : max (g.ol - g.ot) 0 = 0 := by omega
  rw [hmx] at hrr
  have hq : (k != 3) = true := by simp [h3]
  have HRR := Lib.hid hrr
  have hA := heap_alloc_old (heap_alloc_new w (.cells g.cells 79)) gz
  have hB := heap_new2 w (.cells g.cells 79) gz
  have hu0 := ((Upd.refl [] w).alloc (.cells g.cells 79)).alloc gz
  have HA := Lib.hid hA
  have HB := Lib.hid hB
  have HU := Lib.hid hu0
  clear hrr hA hB hu0 hf ok h3 hot hmx
  refine post fun R hR => ?_
  go_enter Try.func45, Try.ntmps45
  go_wp2_with (fail)
  refine Calls.mono (HRR.out _) ?_
  rintro e w3 ⟨rfl, hu3⟩
  have hA3 := hu3.keep0 HA.out
  have hB3 := hu3.keep0 HB.out
  have hx3 := HU.out.trans' hu3
  clear hu3 HA HB HU
  obtain ⟨a0, a1, a2, a3, a4, a5, a6, a7, a8, a9, y0, y1, y2, y3, y4, y5, y6, y7, y8, y9⟩ := cells10 hA3
  obtain ⟨b0, b1, b2, b3, b4, b5, b6, b7, b8, b9, z0, z1, z2, z3, z4, z5, z6, z7, z8, z9⟩ := cells10 hB3
  have hfin := (hset10_9 (v := .bool g.rests) (hset10_8 (v := i64 g.ot) (hset10_7 (v := i64 g.ol) (hset10_6 (v := i64 g.st) (hset10_5 (v := i64 g.sl) (hset10_4 (v := i64 g.mt) (hset10_3 (v := i64 g.ml) (hset10_2 (v := i64 g.t) (hset10_1 (v := i64 g.u) (hset10_0 (v := i64 g.r) hB3))))))))))
  have hxf := ((((((((((hx3.setCell (p := ⟨w.heap.size + 1, 0, none⟩) (.inr (by show w.heap.size ≤ w.heap.size + 1; omega)) (i64 g.r)).setCell (p := ⟨w.heap.size + 1, 1, none⟩) (.inr (by show w.heap.size ≤ w.heap.size + 1; omega)) (i64 g.u)).setCell (p := ⟨w.heap.size + 1, 2, none⟩) (.inr (by show w.heap.size ≤ w.heap.size + 1; omega)) (i64 g.t)).setCell (p := ⟨w.heap.size + 1, 3, none⟩) (.inr (by show w.heap.size ≤ w.heap.size + 1; omega)) (i64 g.ml)).setCell (p := ⟨w.heap.size + 1, 4, none⟩) (.inr (by show w.heap.size ≤ w.heap.size + 1; omega)) (i64 g.mt)).setCell (p := ⟨w.heap.size + 1, 5, none⟩) (.inr (by show w.heap.size ≤ w.heap.size + 1; omega)) (i64 g.sl)).setCell (p := ⟨w.heap.size + 1, 6, none⟩) (.inr (by show w.heap.size ≤ w.heap.size + 1; omega)) (i64 g.st)).setCell (p := ⟨w.heap.size + 1, 7, none⟩) (.inr (by show w.heap.size ≤ w.heap.size + 1; omega)) (i64 g.ol)).setCell (p := ⟨w.heap.size + 1, 8, none⟩) (.inr (by show w.heap.size ≤ w.heap.size + 1; omega)) (i64 g.ot)).setCell (p := ⟨w.heap.size + 1, 9, none⟩) (.inr (by show w.heap.size ≤ w.heap.size + 1; omega)) (.bool g.rests))
  have HFIN := Lib.hid hfin
  have HXF := Lib.hid hxf
  clear hfin hxf hA3 hB3 hx3
  go_wp2_with (fail)
  clear a0 a1 a2 a3 a4 a5 a6 a7 a8 a9 y0 y1 y2 y3 y4 y5 y6 y7 y8 y9 b0 b1 b2 b3 b4 b5 b6 b7 b8 b9 z0 z1 z2 z3 z4 z5 z6 z7 z8 z9
  have hfin := HFIN.out
  have hxf := HXF.out
  clear HFIN HXF
  generalize ((((((((((w3.setCell ⟨w.heap.size + 1, 0, none⟩ (i64 g.r)).setCell ⟨w.heap.size + 1, 1, none⟩ (i64 g.u)).setCell ⟨w.heap.size + 1, 2, none⟩ (i64 g.t)).setCell ⟨w.heap.size + 1, 3, none⟩ (i64 g.ml)).setCell ⟨w.heap.size + 1, 4, none⟩ (i64 g.mt)).setCell ⟨w.heap.size + 1, 5, none⟩ (i64 g.sl)).setCell ⟨w.heap.size + 1, 6, none⟩ (i64 g.st)).setCell ⟨w.heap.size + 1, 7, none⟩ (i64 g.ol)).setCell ⟨w.heap.size + 1, 8, none⟩ (i64 g.ot)).setCell ⟨w.heap.size + 1, 9, none⟩ (.bool g.rests)) = w7 at *
  obtain ⟨d0, d1, d2, d3, d4, d5, d6, d7, d8, d9, -⟩ := cells10 hfin
  refine bodyPost_ret (v := .tuple #[.agg #[i64 g.r, i64 g.u, i64 g.t, i64 g.ml, i64 g.mt, i64 g.sl, i64 g.st, i64 g.ol, i64 g.ot, .bool g.rests], i64 13, .bool false]) (by simp [results, Try.results45, go_sem, *]) rfl ?_
  refine hR.out _ _ ?_
  exact ⟨rfl, hxf⟩

theorem rgadmit_c (g : Gt) (ok : g.ok) (k n : Int) (w : World) : Calls Try.prog 45 #[gv g, i64 k, i64 n] w fun e w' => e = .returned (.tuple #[gv (g.admG k n), i64 (g.admE k n), .bool (g.admO k)]) ∧ Upd [] w w' := by
  unfold Gt.admG Gt.admE Gt.admO
  by_cases hf : g.full k = true
  · rw [if_pos hf, if_pos hf, if_pos hf]
    exact rgadmitFull_c g ok k n hf w
  · rw [if_neg hf, if_neg hf, if_neg hf]
    exact rgadmitIn_c g ok k n (by simpa using hf) w
end Go.Proofs.Ytnhanldefebjbaa

/-
  The contracts of the document's Push and Of (concourseref38), and of the table's own Of. Condition: sixteen connections, and a million bytes at most.
-/
import Derived.Test.YtagadbgbicebaaaRcMore
namespace Go.Proofs.Ytagadbgbicebaaa
open Go Go.RowKit

section
variable {w : World} {Y : Nat → Prop} {v : Value} {l : List Ln}

set_option maxRecDepth 100000 in
set_option maxHeartbeats 2000000 in
theorem cpush38_c (h : RcAt w Y v l) (hlen : l.length ≤ 16) (n : Int) (t : ByteArray) (hsz : ∀ m, lnAt l n = some m → m.r.size + t.size ≤ 1000000) :
    Calls Try.prog 55 #[v, i64 n, .string t] w fun e w' => ∃ ao cap fa fc, e = .returned (.tuple #[.slice ao (tpuL l n t).length cap, .slice fa (tpuF l n t).length fc, i64 (tpuE l n)]) ∧ RcAt w' (grow Y w) (.slice ao (tpuL l n t).length cap) (tpuL l n t) ∧
      Sub w' w.heap.size 23 3 (.slice fa (tpuF l n t).length fc) (tpuF l n t).length (fmCells (tpuF l n t)) ∧ Upd [] w w' := by
  obtain ⟨ps, rfl, hX⟩ := h
  rw [List.length_map] at hlen
  obtain ⟨ao, cap, rfl, hcap, hrow⟩ := hX.form
  have hth := fun w => cthere_c ao ps.length cap n w
  have htk := ctakes38_c (⟨ps, rfl, hX⟩ : RcAt w Y (.slice ao ps.length cap) (ps.map Prod.fst)) n
  unfold tpuL tpuF tpuE
  unfold ttakes at htk
  cases hl : lnAt (ps.map Prod.fst) n with
  | none =>
    rw [lnAt_nomap hl] at hth
    clear htk hsz
    have HT := Lib.hid hth
    have HX := Lib.hid hX
    clear hth hX hrow hl
    simp only [List.length_map, List.length_nil]
    refine post fun R hR => ?_
    go_enter Try.func55, Try.ntmps55
    go_wp2_with (fail)
    refine (HT.out _).mono ?_
    rintro e w2 ⟨rfl, rfl⟩
    go_wp2_with (fail)
    exact hR.out _ _ ⟨_, _, _, _, rfl, ⟨ps, rfl, HX.out.more (grow_sub Y w)⟩, sub_nil _ _ _ _, Upd.refl _ _⟩
  | some m =>
    have hml := hsz m hl
    rw [hl] at htk
    simp only at htk
    clear hsz
    obtain ⟨k, hk, rfl, hm, ht⟩ := lnAt_map hl
    obtain ⟨g, off, rfl, hg⟩ := hrow (by omega)
    rw [ht] at hth
    obtain ⟨c0, c1, c2, c3, c4⟩ := hX.get hk
    have hsub := hX.out _ (List.getElem_mem hk)
    have hyo := hX.yo _ (List.getElem_mem hk)
    rw [hm] at c0 c1 c2 c3 hsub
    obtain ⟨ca, cc, hcv, -⟩ := hsub.form
    rw [hcv] at c4 hsub hyo
    have hkl : (k : Int) < ps.length := by omega
    have HT := Lib.hid hth
    have HX := Lib.hid hX
    have HSUB := Lib.hid hsub
    have HYO := Lib.hid hyo
    have hA := heap_alloc_new w (.cells #[i64 (m.st + 1), i64 m.ow, .string m.r, i64 m.e, .slice ca m.out.length cc] 103)
    have hu := (Upd.refl [] w).alloc (.cells #[i64 (m.st + 1), i64 m.ow, .string m.r, i64 m.e, .slice ca m.out.length cc] 103)
    obtain ⟨A, hAe⟩ : ∃ A, A = w.heap.size := ⟨_, rfl⟩
    rw [← hAe] at hA
    have hAw : w.heap.size ≤ A := by omega
    have HA := Lib.hid hA
    have HU := Lib.hid hu
    clear hth hX hrow hl ht hm hcv hsub hyo hA hu
    have HX0 := Lib.hid (show RcAt w (grow Y w) (.slice (some ⟨g, off, none⟩) ps.length cap) (ps.map Prod.fst) from ⟨ps, rfl, HX.out.more (grow_sub Y w)⟩)
    by_cases hst : m.st < 2
    · simp only [if_pos hst]
      rw [decide_eq_true hst] at htk
      have HTK := Lib.hid htk
      clear htk hst
      by_cases he : m.e = 0
      · simp only [if_pos he]
        have hall := fun w' => rall_c (w := w') (A := m.r.data.toList ++ t.data.toList) (by rw [List.length_append]; show m.r.size + t.size ≤ _; exact hml)
        rw [show bs (m.r.data.toList ++ t.data.toList) = m.r ++ t from by rw [← bs_append]] at hall
        rw [show allFr (m.r.data.toList ++ t.data.toList) = fedOf m.r t from rfl] at hall
        have hro : restOf m.r t = bs (fedOf m.r t).rest := rfl
        generalize hrq : bs (fedOf m.r t).rest = rq at *
        generalize (fedOf m.r t).e = eq at *
        generalize (fedOf m.r t).out = fq at *
        have HALL := Lib.hid hall
        have HRO := Lib.hid hro
        have hq : (m.e != 0) = false := by simp [he]
        have HE := Lib.hid he
        clear hall hro he hrq
        refine post fun R hR => ?_
        go_enter Try.func55, Try.ntmps55
        go_wp2_with (fail)
        refine (HT.out _).mono ?_
        rintro e w2 ⟨rfl, rfl⟩
        go_wp2_with (fail)
        refine HTK.out.mono ?_
        rintro e w2 ⟨rfl, rfl⟩
        go_upto_region 6 with (fail)
        rw [← hAe]
        have hA := HA.out
        clear hAe HA c0 c1 c2 c3 c4
        generalize w.alloc (.cells #[i64 (m.st + 1), i64 m.ow, .string m.r, i64 m.e, .slice ca m.out.length cc] 103) = w1 at *
        have t1 := lt_of_heap hA
        obtain ⟨a0, a1, a2, a3, a4, y0, y1, y2, y3, y4⟩ := cells5 hA
        go_wp2_with (fail)
        refine (HALL.out _).mono ?_
        rintro e w2 ⟨fa, fc, rfl, hf2, hu2⟩
        have hA2 := hu2.keep0 hA
        have HU2 := Lib.hid (HU.out.trans' hu2)
        have HF2 := Lib.hid (hf2.mono HU.out.size)
        clear hA t1 a0 a1 a2 a3 a4 y0 y1 y2 y3 y4 hu2 hf2
        have t1 := lt_of_heap hA2
        obtain ⟨a0, a1, a2, a3, a4, y0, y1, y2, y3, y4⟩ := cells5 hA2
        go_upto_region 11 with (fail)
        have hA5 := hset5_3 (v := i64 eq) (hset5_2 (v := .string rq) hA2)
        have hu5 : Upd [A] w2 ((w2.setCell ⟨A, 2, none⟩ (.string rq)).setCell ⟨A, 3, none⟩ (i64 eq)) := ((Upd.refl _ _).setCell (by simp) _).setCell (by simp) _
        have HYO5 := Lib.hid (fun x hx => .inl (HYO.out x hx) : ∀ x ∈ blkL (.slice ca m.out.length cc), grow Y w x)
        have HF5 := Lib.hid (HF2.out.upd hu5 (fun x hx hm => by
          obtain ⟨c2, h2⟩ := HF2.out.ty x hx
          have := List.mem_singleton.1 hm; subst this
          exact cells_ne hA2 h2 (by decide) rfl))
        have HU := HU2
        clear hA2 t1 a0 a1 a2 a3 a4 y0 y1 y2 y3 y4 HF2 HU2
        generalize (w2.setCell ⟨A, 2, none⟩ (.string rq)).setCell ⟨A, 3, none⟩ (i64 eq) = w5 at *
        have HU5 := Lib.hid (HU.out.trans hu5 (fun x hx => .inr (by have := List.mem_singleton.1 hx; omega)))
        obtain ⟨a0, a1, a2, a3, a4, -⟩ := cells5 hA5
        clear hu5
        have HS5 := Lib.hid (HSUB.out.upd0 HU5.out)
        have hwi := cwith_c ((HX.out.more (grow_sub Y w)).upd0 HU5.out) hlen k hk { m with r := rq, e := eq } HS5.out HYO5.out (m.st + 1) rfl
        have HWI := Lib.hid hwi
        clear hwi
        go_wp2_with (fail)
        refine HWI.out.mono ?_
        rintro e w6 ⟨ao6, cap6, rfl, hX6, hu6⟩
        have HX6 := Lib.hid (hX6.more (grow2 HU5.out.size))
        have HU6 := Lib.hid (HU5.out.trans' hu6)
        have HF6 := Lib.hid (HF5.out.upd0 hu6)
        clear hX6 hu6 a0 a1 a2 a3 a4
        go_wp2_with (fail)
        have hln : (setL (ps.map Prod.fst) k { m with r := rq, e := eq }).length = ps.length := by unfold setL; simp
        rw [HRO.out] at hR
        refine hR.out _ _ ⟨ao6, cap6, fa, fc, by rw [hln]; rfl, ?_, HF6.out, HU6.out⟩
        rw [hln]
        exact ⟨_, set_map _ _ _ _, HX6.out⟩
      · simp only [if_neg he, List.length_map, List.length_nil]
        have hq : (m.e != 0) = true := by simpa using he
        refine post fun R hR => ?_
        go_enter Try.func55, Try.ntmps55
        go_wp2_with (fail)
        refine (HT.out _).mono ?_
        rintro e w2 ⟨rfl, rfl⟩
        go_wp2_with (fail)
        refine HTK.out.mono ?_
        rintro e w2 ⟨rfl, rfl⟩
        go_upto_region 6 with (fail)
        rw [← hAe]
        have hA := HA.out
        clear hAe HA c0 c1 c2 c3 c4
        generalize w.alloc (.cells #[i64 (m.st + 1), i64 m.ow, .string m.r, i64 m.e, .slice ca m.out.length cc] 103) = w1 at *
        have t1 := lt_of_heap hA
        obtain ⟨a0, a1, a2, a3, a4, y0, y1, y2, y3, y4⟩ := cells5 hA
        have HX2 := Lib.hid (HX0.out.upd0 HU.out)
        go_wp2_with (fail)
        exact hR.out _ _ ⟨_, _, _, _, rfl, HX2.out, sub_nil _ _ _ _, HU.out⟩
    · simp only [if_neg hst, List.length_map, List.length_nil]
      rw [decide_eq_false hst] at htk
      have HTK := Lib.hid htk
      clear htk hAe HA HU c0 c1 c2 c3 c4
      refine post fun R hR => ?_
      go_enter Try.func55, Try.ntmps55
      go_wp2_with (fail)
      refine (HT.out _).mono ?_
      rintro e w2 ⟨rfl, rfl⟩
      go_wp2_with (fail)
      refine HTK.out.mono ?_
      rintro e w2 ⟨rfl, rfl⟩
      go_wp2_with (fail)
      exact hR.out _ _ ⟨_, _, _, _, rfl, HX0.out, sub_nil _ _ _ _, Upd.refl _ _⟩
end
end Go.Proofs.Ytagadbgbicebaaa

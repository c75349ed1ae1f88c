/-
  The contracts of the document's Push, Send, Deliver (concourseref38) on a table as one notion. Condition: sixteen connections, a thousand texts, and a million bytes at most.
-/
import Derived.Test.YtagadbgbicebaaaRcOps
namespace Go.Proofs.Ytagadbgbicebaaa
open Go Go.RowKit

theorem strs_one (l : List ByteArray) : ∀ u ∈ strs l, u.oneCell' = true := by
  intro u hu
  obtain ⟨x, _, rfl⟩ := List.mem_map.1 hu
  rfl
/-- append([]string{}, l...) -/
theorem run_copy_str {w : World} {ra : Option Addr} {rc : Nat} {l : List ByteArray} (h : Sub w 0 9 1 (.slice ra l.length rc) l.length (strs l)) (hlen : l.length ≤ 2000) :
    ∃ ao cap w', (Builtin.append_ #[38, 38] 38 #[.slice (some ⟨w.heap.size, 0, none⟩) 0 0, .slice ra l.length rc]).run Try.prog (w.alloc (.cells #[] 9)) = .ok (.slice ao l.length cap) w' ∧
      Sub w' w.heap.size 9 1 (.slice ao l.length cap) l.length (strs l) ∧ Upd [] w w' := by
  obtain ⟨i0, hi, hz0, hz1, hz2⟩ := info_parts info_cstr
  have hnew : Sub (w.alloc (.cells #[] 9)) w.heap.size 9 1 (.slice (some ⟨w.heap.size, 0, none⟩) 0 0) 0 [] :=
    ⟨rfl, .inr ⟨w.heap.size, 0, 0, #[], rfl, Nat.le_refl _, heap_alloc_new _ _, Nat.le_refl _, by unfold maxLen; omega, by simp, fun j hj => by omega⟩⟩
  obtain ⟨ao1, cap1, w1, hrun1, hs1, hu1, hb1⟩ := run_append_sl (P := Try.prog) (w := w.alloc (.cells #[] 9)) w.heap.size 38 38 9 i0 _ 1 16 Try.underlying38 hi hz0 hz1 hz2 rfl (by decide) hnew (Sub.src (h.upd0 ((Upd.refl [] w).alloc _))) (by rw [strs_len, Nat.mul_one]) (strs_one l) (by unfold maxLen; omega) (by omega) (by simp)
  rw [List.nil_append] at hs1
  simp only [Nat.zero_add] at hrun1 hs1
  exact ⟨ao1, cap1, w1, hrun1, hs1, ((Upd.refl [] w).alloc _).trans hu1 (by intro g hg; simp [blkL] at hg; exact .inr (by omega))⟩
/-- append(append([]string{}, l...), s) -/
theorem run_copy_push_str {w : World} {ra : Option Addr} {rc : Nat} {l : List ByteArray} (h : Sub w 0 9 1 (.slice ra l.length rc) l.length (strs l)) (hlen : l.length ≤ 2000) (s : ByteArray) :
    ∃ ao cap w1 ao2 cap2 w2, (Builtin.append_ #[38, 38] 38 #[.slice (some ⟨w.heap.size, 0, none⟩) 0 0, .slice ra l.length rc]).run Try.prog (w.alloc (.cells #[] 9)) = .ok (.slice ao l.length cap) w1 ∧ Upd [] w w1 ∧
      (Builtin.append_ #[38, 38] 38 #[.slice ao l.length cap, .slice (some ⟨w1.heap.size, 0, none⟩) 1 1]).run Try.prog (w1.alloc (.cells #[.string s] 9)) = .ok (.slice ao2 (l.length + 1) cap2) w2 ∧
      Sub w2 w.heap.size 9 1 (.slice ao2 (l.length + 1) cap2) (l.length + 1) (strs (l ++ [s])) ∧ Upd [] w w2 := by
  obtain ⟨i0, hi, hz0, hz1, hz2⟩ := info_parts info_cstr
  obtain ⟨ao1, cap1, w1, hrun1, hs1, hu1⟩ := run_copy_str h hlen
  obtain ⟨ao2, cap2, w2, hrun2, hs2, hu2, hb2⟩ := run_append_sl (P := Try.prog) (w := w1.alloc (.cells #[.string s] 9)) w.heap.size 38 38 9 i0 _ 1 16 Try.underlying38 hi hz0 hz1 hz2 rfl (by decide) (hs1.upd0 ((Upd.refl [] w1).alloc _)) (src_block (heap_alloc_new _ _) 1 1) rfl (by intro u hu; simp at hu; subst hu; rfl) (by unfold maxLen; omega) (by omega) (by have := hu1.size; simp; omega)
  refine ⟨ao1, cap1, w1, ao2, cap2, w2, hrun1, hu1, hrun2, ?_, (hu1.alloc _).trans hu2 (fun g hg => .inr (hs1.lt g hg).1)⟩
  rw [strs_append]
  exact hs2

section
variable {w : World} {Y : Nat → Prop} {v : Value} {l : List Ln}

set_option maxRecDepth 100000 in
set_option maxHeartbeats 2000000 in
theorem csend38_c (h : RcAt w Y v l) (hlen : l.length ≤ 16) {K : Nat} (hK : outs l K) (hK2 : K ≤ 900) (n : Int) (s : ByteArray) :
    Calls Try.prog 59 #[v, i64 n, .string s] w fun e w' => ∃ ao cap, e = .returned (.tuple #[.slice ao (tseL l n s).length cap, i64 (tseE l n)]) ∧ RcAt w' (grow Y w) (.slice ao (tseL l n s).length cap) (tseL l n s) ∧ Upd [] w w' := by
  obtain ⟨ps, rfl, hX⟩ := h
  rw [List.length_map] at hlen
  obtain ⟨ao, cap, rfl, hcap, hrow⟩ := hX.form
  have hth := fun w => cthere_c ao ps.length cap n w
  unfold tseL tseE
  cases hl : lnAt (ps.map Prod.fst) n with
  | none =>
    rw [lnAt_nomap hl] at hth
    have HT := Lib.hid hth
    have HX := Lib.hid hX
    clear hth hX hrow hl
    simp only [List.length_map]
    refine post fun R hR => ?_
    go_enter Try.func59, Try.ntmps59
    go_wp2_with (fail)
    refine (HT.out _).mono ?_
    rintro e w2 ⟨rfl, rfl⟩
    go_wp2_with (fail)
    exact hR.out _ _ ⟨_, _, rfl, ⟨ps, rfl, HX.out.more (grow_sub Y w)⟩, Upd.refl _ _⟩
  | some m =>
    have hmk := hK _ m (lnAt_some hl).2.1
    obtain ⟨k, hk, rfl, hm, ht⟩ := lnAt_map hl
    obtain ⟨g, off, rfl, hg⟩ := hrow (by omega)
    rw [ht] at hth
    obtain ⟨c0, c1, c2, c3, c4⟩ := hX.get hk
    have hsub := hX.out _ (List.getElem_mem hk)
    have hyo := hX.yo _ (List.getElem_mem hk)
    rw [hm] at c0 c1 c2 c3 hsub
    obtain ⟨ca, cc, hcv, -⟩ := hsub.form
    rw [hcv] at c4 hsub hyo
    have hkl : (k : Int) < ps.length := by omega
    have HT := Lib.hid hth
    have HX := Lib.hid hX
    have HSUB := Lib.hid hsub
    have HYO := Lib.hid hyo
    have hA := heap_alloc_new w (.cells #[i64 (m.st + 1), i64 m.ow, .string m.r, i64 m.e, .slice ca m.out.length cc] 103)
    have hu := (Upd.refl [] w).alloc (.cells #[i64 (m.st + 1), i64 m.ow, .string m.r, i64 m.e, .slice ca m.out.length cc] 103)
    obtain ⟨A, hAe⟩ : ∃ A, A = w.heap.size := ⟨_, rfl⟩
    rw [← hAe] at hA
    have hAw : w.heap.size ≤ A := by omega
    have HA := Lib.hid hA
    have HU := Lib.hid hu
    clear hth hX hrow hl ht hm hcv hsub hyo hA hu
    by_cases hst : m.st = 3
    · simp only [if_pos hst]
      have hq : (m.st + 1 == 4) = true := by simp [hst]
      have HST := Lib.hid hst
      clear hst
      refine post fun R hR => ?_
      go_enter Try.func59, Try.ntmps59
      go_wp2_with (fail)
      refine (HT.out _).mono ?_
      rintro e w2 ⟨rfl, rfl⟩
      go_upto_region 4 with (fail)
      rw [← hAe]
      have hA := HA.out
      clear hAe HA c0 c1 c2 c3 c4
      generalize w.alloc (.cells #[i64 (m.st + 1), i64 m.ow, .string m.r, i64 m.e, .slice ca m.out.length cc] 103) = w1 at *
      have t1 := lt_of_heap hA
      obtain ⟨a0, a1, a2, a3, a4, y0, y1, y2, y3, y4⟩ := cells5 hA
      have HX2 := Lib.hid (show RcAt w1 (grow Y w) (.slice (some ⟨g, off, none⟩) ps.length cap) (ps.map Prod.fst) from ⟨ps, rfl, (HX.out.more (grow_sub Y w)).upd0 HU.out⟩)
      go_wp2_with (fail)
      refine hR.out _ _ ⟨_, _, by rw [List.length_map]; rfl, ?_, HU.out⟩
      rw [List.length_map]
      exact HX2.out
    · simp only [if_neg hst]
      have hq : (m.st + 1 == 4) = false := beq_false_of_ne (by omega)
      have hst2 := Lib.hid hst
      clear hst
      refine post fun R hR => ?_
      go_enter Try.func59, Try.ntmps59
      go_wp2_with (fail)
      refine (HT.out _).mono ?_
      rintro e w2 ⟨rfl, rfl⟩
      go_upto_region 4 with (fail)
      rw [← hAe]
      have hA := HA.out
      clear hAe HA c0 c1 c2 c3 c4
      generalize w.alloc (.cells #[i64 (m.st + 1), i64 m.ow, .string m.r, i64 m.e, .slice ca m.out.length cc] 103) = w1 at *
      have t1 := lt_of_heap hA
      obtain ⟨a0, a1, a2, a3, a4, y0, y1, y2, y3, y4⟩ := cells5 hA
      obtain ⟨ao1, cap1, w4, ao2, cap2, w5, hr1, hu4, hr2, hs5, hu5⟩ := run_copy_push_str (HSUB.out.upd0 HU.out) (by omega) s
      have HR1 := Lib.hid hr1
      have HR2 := Lib.hid hr2
      have hA5 := hu5.keep0 hA
      have HS5 := Lib.hid hs5
      have HU5 := Lib.hid (HU.out.trans' hu5)
      have t4 := lt_of_heap (hu4.keep0 hA)
      have t5 := lt_of_heap hA5
      obtain ⟨e0, e1, e2, e3, e4, z0, z1, z2, z3, z4⟩ := cells5 hA5
      have HYO6 := Lib.hid (fun x hx => .inr (Nat.le_trans HU.out.size (hs5.lt x hx).1) : ∀ x ∈ blkL (.slice ao2 (m.out.length + 1) cap2), grow Y w x)
      clear hr1 hr2 hu4 hu5 hs5
      go_upto_region 7 with (at_builtin; first | (refine wpList_append_run _ rfl _ _ 38 rfl rfl rfl HR1.out ?_; clear HR1) | (refine wpList_append_run _ rfl _ _ 38 rfl rfl rfl HR2.out ?_; clear HR2))
      have hA6 := hset5_4 (v := .slice ao2 (m.out.length + 1) cap2) hA5
      have hu5 : Upd [A] w5 (w5.setCell ⟨A, 4, none⟩ (.slice ao2 (m.out.length + 1) cap2)) := (Upd.refl _ _).setCell (by simp) _
      have HS6 := Lib.hid ((HS5.out.mono (Nat.zero_le _)).upd hu5 (fun x hx hm => by
        obtain ⟨c2, h2⟩ := HS5.out.ty x hx
        have := List.mem_singleton.1 hm; subst this
        exact cells_ne hA5 h2 (by decide) rfl))
      have HU := HU5
      have w1 := 0
      clear hA hA5 t1 t4 t5 a0 a1 a2 a3 a4 y0 y1 y2 y3 y4 e0 e1 e2 e3 e4 z0 z1 z2 z3 z4 HU5 HS5
      generalize w5.setCell ⟨A, 4, none⟩ (.slice ao2 (m.out.length + 1) cap2) = w6 at *
      have HU5 := Lib.hid (HU.out.trans hu5 (fun x hx => .inr (by have := List.mem_singleton.1 hx; omega)))
      obtain ⟨a0, a1, a2, a3, a4, -⟩ := cells5 hA6
      clear hu5
      rw [show m.out.length + 1 = (m.out ++ [s]).length from by simp] at HS6 HYO6 a4
      have HS5 := HS6
      have HYO5 := HYO6
      generalize hcn : m.out ++ [s] = on at *
      clear hcn HS6 HYO6
      have hwi := cwith_c ((HX.out.more (grow_sub Y w)).upd0 HU5.out) hlen k hk { m with out := on } HS5.out HYO5.out (m.st + 1) (by first | rfl | (show _ = _ + 1; omega))
      have HWI := Lib.hid hwi
      clear hwi
      go_wp2_with (fail)
      refine HWI.out.mono ?_
      rintro e w6 ⟨ao6, cap6, rfl, hX6, hu6⟩
      have HX6 := Lib.hid (hX6.more (grow2 HU5.out.size))
      have HU6 := Lib.hid (HU5.out.trans' hu6)
      clear hX6 hu6 a0 a1 a2 a3 a4
      go_wp2_with (fail)
      have hln : (setL (ps.map Prod.fst) k { m with out := on }).length = ps.length := by unfold setL; simp
      refine hR.out _ _ ⟨ao6, cap6, by rw [hln]; rfl, ?_, HU6.out⟩
      rw [hln]
      exact ⟨_, set_map _ _ _ _, HX6.out⟩

theorem tdv_none {l : List Ln} {n : Int} (h : lnAt l n = none) : tdv l n = ⟨⟨#[]⟩, false, 12, l⟩ := by unfold tdv; rw [h]
theorem tdv_gone {l : List Ln} {n : Int} {m : Ln} (h : lnAt l n = some m) (h3 : m.st = 3) : tdv l n = ⟨⟨#[]⟩, false, 17, l⟩ := by unfold tdv; rw [h]; simp only [if_pos h3]
theorem tdv_text {l : List Ln} {n : Int} {m : Ln} (h : lnAt l n = some m) (h3 : ¬ m.st = 3) {s : ByteArray} {r : List ByteArray} (ho : m.out = s :: r) : tdv l n = ⟨s, false, 0, setL l n { m with out := r }⟩ := by unfold tdv; rw [h]; simp only [if_neg h3, ho]
theorem tdv_shut {l : List Ln} {n : Int} {m : Ln} (h : lnAt l n = some m) (h3 : m.st = 2) (ho : m.out = []) : tdv l n = ⟨⟨#[]⟩, true, 0, setL l n { m with st := 3 }⟩ := by unfold tdv; rw [h]; simp only [if_neg (show ¬ m.st = 3 by omega), ho, if_pos h3]
theorem tdv_wait {l : List Ln} {n : Int} {m : Ln} (h : lnAt l n = some m) (h3 : ¬ m.st = 3) (h2 : ¬ m.st = 2) (ho : m.out = []) : tdv l n = ⟨⟨#[]⟩, false, 0, l⟩ := by unfold tdv; rw [h]; simp only [if_neg h3, ho, if_neg h2]

set_option maxRecDepth 100000 in
set_option maxHeartbeats 2000000 in
theorem cdeliver38_c (h : RcAt w Y v l) (hlen : l.length ≤ 16) {K : Nat} (hK : outs l K) (hK2 : K ≤ 900) (n : Int) :
    Calls Try.prog 60 #[v, i64 n] w fun e w' => ∃ ao cap, e = .returned (.tuple #[.slice ao (tdv l n).l.length cap, .string (tdv l n).s, .bool (tdv l n).x, i64 (tdv l n).e]) ∧ RcAt w' (grow Y w) (.slice ao (tdv l n).l.length cap) (tdv l n).l ∧ Upd [] w w' := by
  obtain ⟨ps, rfl, hX⟩ := h
  rw [List.length_map] at hlen
  obtain ⟨ao, cap, rfl, hcap, hrow⟩ := hX.form
  have hth := fun w => cthere_c ao ps.length cap n w
  cases hl : lnAt (ps.map Prod.fst) n with
  | none =>
    rw [tdv_none hl]
    rw [lnAt_nomap hl] at hth
    have HT := Lib.hid hth
    have HX := Lib.hid hX
    clear hth hX hrow hl
    simp only [List.length_map]
    refine post fun R hR => ?_
    go_enter Try.func60, Try.ntmps60
    go_wp2_with (fail)
    refine (HT.out _).mono ?_
    rintro e w2 ⟨rfl, rfl⟩
    go_wp2_with (fail)
    refine bodyPost_ret (v := .tuple #[.slice ao ps.length cap, .string ⟨#[]⟩, .bool false, i64 12]) (by simp [results, Try.results60, go_sem, *]) rfl ?_
    refine hR.out _ _ ?_
    exact ⟨_, _, rfl, ⟨ps, rfl, HX.out.more (grow_sub Y w)⟩, Upd.refl _ _⟩
  | some m =>
    have hmk := hK _ m (lnAt_some hl).2.1
    have HLN := Lib.hid hl
    obtain ⟨k, hk, rfl, hm, ht⟩ := lnAt_map hl
    obtain ⟨g, off, rfl, hg⟩ := hrow (by omega)
    rw [ht] at hth
    obtain ⟨c0, c1, c2, c3, c4⟩ := hX.get hk
    have hsub := hX.out _ (List.getElem_mem hk)
    have hyo := hX.yo _ (List.getElem_mem hk)
    rw [hm] at c0 c1 c2 c3 hsub
    obtain ⟨ca, cc, hcv, -⟩ := hsub.form
    rw [hcv] at c4 hsub hyo
    have hkl : (k : Int) < ps.length := by omega
    have HT := Lib.hid hth
    have HX := Lib.hid hX
    have HSUB := Lib.hid hsub
    have HYO := Lib.hid hyo
    have hA := heap_alloc_new w (.cells #[i64 (m.st + 1), i64 m.ow, .string m.r, i64 m.e, .slice ca m.out.length cc] 103)
    have hu := (Upd.refl [] w).alloc (.cells #[i64 (m.st + 1), i64 m.ow, .string m.r, i64 m.e, .slice ca m.out.length cc] 103)
    obtain ⟨A, hAe⟩ : ∃ A, A = w.heap.size := ⟨_, rfl⟩
    rw [← hAe] at hA
    have hAw : w.heap.size ≤ A := by omega
    have HA := Lib.hid hA
    have HU := Lib.hid hu
    clear hth hX hrow hl ht hm hcv hsub hyo hA hu
    by_cases hst : m.st = 3
    · rw [tdv_gone HLN.out hst]
      have hq : (m.st + 1 == 4) = true := by simp [hst]
      have HST := Lib.hid hst
      clear hst
      simp only [List.length_map]
      refine post fun R hR => ?_
      go_enter Try.func60, Try.ntmps60
      go_wp2_with (fail)
      refine (HT.out _).mono ?_
      rintro e w2 ⟨rfl, rfl⟩
      go_upto_region 4 with (fail)
      rw [← hAe]
      have hA := HA.out
      clear hAe HA c0 c1 c2 c3 c4
      generalize w.alloc (.cells #[i64 (m.st + 1), i64 m.ow, .string m.r, i64 m.e, .slice ca m.out.length cc] 103) = w1 at *
      have t1 := lt_of_heap hA
      obtain ⟨a0, a1, a2, a3, a4, y0, y1, y2, y3, y4⟩ := cells5 hA
      have HX2 := Lib.hid (show RcAt w1 (grow Y w) (.slice (some ⟨g, off, none⟩) ps.length cap) (ps.map Prod.fst) from ⟨ps, rfl, (HX.out.more (grow_sub Y w)).upd0 HU.out⟩)
      go_wp2_with (fail)
      refine bodyPost_ret (v := .tuple #[.slice (some ⟨g, off, none⟩) ps.length cap, .string ⟨#[]⟩, .bool false, i64 17]) (by simp [results, Try.results60, go_sem, *]) rfl ?_
      refine hR.out _ _ ?_
      exact ⟨_, _, rfl, HX2.out, HU.out⟩
    · have hq : (m.st + 1 == 4) = false := beq_false_of_ne (by omega)
      cases ho : m.out with
      | nil =>
        have hle : m.out.length ≤ 0 := by rw [ho]; exact Nat.le_refl _
        by_cases hs2 : m.st = 2
        · rw [tdv_shut HLN.out hs2 ho]
          have hq3 : (m.st + 1 == 3) = true := by simp [hs2]
          have HS2 := Lib.hid hs2
          clear hst hs2 ho
          refine post fun R hR => ?_
          go_enter Try.func60, Try.ntmps60
          go_wp2_with (fail)
          refine (HT.out _).mono ?_
          rintro e w2 ⟨rfl, rfl⟩
          go_upto_region 4 with (fail)
          rw [← hAe]
          have hA := HA.out
          clear hAe HA c0 c1 c2 c3 c4
          generalize w.alloc (.cells #[i64 (m.st + 1), i64 m.ow, .string m.r, i64 m.e, .slice ca m.out.length cc] 103) = w1 at *
          have t1 := lt_of_heap hA
          obtain ⟨a0, a1, a2, a3, a4, y0, y1, y2, y3, y4⟩ := cells5 hA
          go_upto_region 12 with (fail)
          have hA5 := hset5_0 (v := i64 4) hA
          have hu5 : Upd [A] w1 (w1.setCell ⟨A, 0, none⟩ (i64 4)) := (Upd.refl _ _).setCell (by simp) _
          have HYO5 := Lib.hid (fun x hx => .inl (HYO.out x hx) : ∀ x ∈ blkL (.slice ca m.out.length cc), grow Y w x)
          clear hA t1 a0 a1 a2 a3 a4 y0 y1 y2 y3 y4
          generalize w1.setCell ⟨A, 0, none⟩ (i64 4) = w5 at *
          have HU5 := Lib.hid (HU.out.trans hu5 (fun x hx => .inr (by have := List.mem_singleton.1 hx; omega)))
          obtain ⟨a0, a1, a2, a3, a4, -⟩ := cells5 hA5
          clear hu5
          have HS5 := Lib.hid (HSUB.out.upd0 HU5.out)
          clear hle
          have hwi := cwith_c ((HX.out.more (grow_sub Y w)).upd0 HU5.out) hlen k hk { m with st := 3 } HS5.out HYO5.out 4 (by first | rfl | (show _ = _ + 1; omega))
          have HWI := Lib.hid hwi
          clear hwi
          go_wp2_with (fail)
          refine HWI.out.mono ?_
          rintro e w6 ⟨ao6, cap6, rfl, hX6, hu6⟩
          have HX6 := Lib.hid (hX6.more (grow2 HU5.out.size))
          have HU6 := Lib.hid (HU5.out.trans' hu6)
          clear hX6 hu6 a0 a1 a2 a3 a4
          go_wp2_with (fail)
          have hln : (setL (ps.map Prod.fst) k { m with st := 3 }).length = ps.length := by unfold setL; simp
          refine bodyPost_ret (v := .tuple #[.slice ao6 ps.length cap6, .string ⟨#[]⟩, .bool true, i64 0]) (by simp [results, Try.results60, go_sem, *]) rfl ?_
          refine hR.out _ _ ?_
          refine ⟨ao6, cap6, by rw [hln], ?_, HU6.out⟩
          rw [hln]
          exact ⟨_, set_map _ _ _ _, HX6.out⟩
        · rw [tdv_wait HLN.out hst hs2 ho]
          have hq3 : (m.st + 1 == 3) = false := beq_false_of_ne (by omega)
          simp only [List.length_map]
          clear hst hs2 ho
          refine post fun R hR => ?_
          go_enter Try.func60, Try.ntmps60
          go_wp2_with (fail)
          refine (HT.out _).mono ?_
          rintro e w2 ⟨rfl, rfl⟩
          go_upto_region 4 with (fail)
          rw [← hAe]
          have hA := HA.out
          clear hAe HA c0 c1 c2 c3 c4
          generalize w.alloc (.cells #[i64 (m.st + 1), i64 m.ow, .string m.r, i64 m.e, .slice ca m.out.length cc] 103) = w1 at *
          have t1 := lt_of_heap hA
          obtain ⟨a0, a1, a2, a3, a4, y0, y1, y2, y3, y4⟩ := cells5 hA
          have HX2 := Lib.hid (show RcAt w1 (grow Y w) (.slice (some ⟨g, off, none⟩) ps.length cap) (ps.map Prod.fst) from ⟨ps, rfl, (HX.out.more (grow_sub Y w)).upd0 HU.out⟩)
          go_wp2_with (fail)
          refine bodyPost_ret (v := .tuple #[.slice (some ⟨g, off, none⟩) ps.length cap, .string ⟨#[]⟩, .bool false, i64 0]) (by simp [results, Try.results60, go_sem, *]) rfl ?_
          refine hR.out _ _ ?_
          exact ⟨_, _, rfl, HX2.out, HU.out⟩
      | cons s r =>
        rw [tdv_text HLN.out hst ho]
        have hol : m.out.length = r.length + 1 := by rw [ho]; rfl
        have hsb := HSUB.out
        rw [hol, ho] at hsb
        obtain ⟨ao9, cp9, e9, hcp9, hr9⟩ := hsb.form
        obtain ⟨gc, offc, e10, -, hgc, hcell⟩ := hr9 (by omega)
        injection e9 with e11 _ e12
        rw [e10] at e11
        subst e11; subst e12
        have hs0 : w.cell? ⟨gc, offc, none⟩ = some (.string s) := by have := hcell 0 (.string s) rfl; rw [Nat.add_zero] at this; exact this
        have HSB := Lib.hid hsb
        have hrl : r.length ≤ 900 := by omega
        generalize hml : m.out.length = ml at *
        subst hol
        clear hst ho e10 hr9 hcell hsb hml HSUB
        refine post fun R hR => ?_
        go_enter Try.func60, Try.ntmps60
        go_wp2_with (fail)
        refine (HT.out _).mono ?_
        rintro e w2 ⟨rfl, rfl⟩
        go_upto_region 8 with (fail)
        rw [← hAe]
        have hA := HA.out
        clear hAe HA c0 c1 c2 c3 c4
        generalize w.alloc (.cells #[i64 (m.st + 1), i64 m.ow, .string m.r, i64 m.e, .slice (some ⟨gc, offc, none⟩) (r.length + 1) cc] 103) = w1 at *
        have t1 := lt_of_heap hA
        obtain ⟨a0, a1, a2, a3, a4, y0, y1, y2, y3, y4⟩ := cells5 hA
        have hsb1 := HSB.out.upd0 HU.out
        by_cases hcc : cc = 1
        · subst hcc
          obtain rfl : r = [] := List.eq_nil_of_length_eq_zero (by omega)
          have hv : Sub w1 0 9 1 (.slice (some ⟨gc, offc, none⟩) ([] : List ByteArray).length 0) ([] : List ByteArray).length (strs []) := Sub.none hsb1
          clear hsb1 a0 a1 a2 a3 a4 y0 y1 y2 y3 y4
          obtain ⟨ao6, cap6, w6, hr6, hs6, hu6⟩ := run_copy_str hv (by first | omega | decide)
          have HR6 := Lib.hid hr6
          have hA6 := hu6.keep0 hA
          have t5 := lt_of_heap hA
          have t6 := lt_of_heap hA6
          obtain ⟨a0, a1, a2, a3, a4, -⟩ := cells5 hA
          obtain ⟨e0, e1, e2, e3, e4, z0, z1, z2, z3, z4⟩ := cells5 hA6
          have HYO5 := Lib.hid (fun x hx => .inr (Nat.le_trans HU.out.size (hs6.lt x hx).1) : ∀ x ∈ blkL (.slice ao6 ([] : List ByteArray).length cap6), grow Y w x)
          have HS6 := Lib.hid (hs6.mono (Nat.zero_le _))
          have HU6x := Lib.hid (HU.out.trans' hu6)
          clear hr6 hs6 hu6 hv
          go_upto_region 9 with (at_builtin; (refine wpList_append_run _ rfl _ _ 38 rfl rfl rfl HR6.out ?_; clear HR6))
          have hA5 := hset5_4 (v := .slice ao6 ([] : List ByteArray).length cap6) hA6
          have hu5 : Upd [A] w6 (w6.setCell ⟨A, 4, none⟩ (.slice ao6 ([] : List ByteArray).length cap6)) := (Upd.refl _ _).setCell (by simp) _
          have HS5 := Lib.hid (HS6.out.upd hu5 (fun x hx hm => by
            obtain ⟨c2, h2⟩ := HS6.out.ty x hx
            have := List.mem_singleton.1 hm; subst this
            exact cells_ne hA6 h2 (by decide) rfl))
          have HU := HU6x
          clear hA hA6 t5 t6 a0 a1 a2 a3 a4 e0 e1 e2 e3 e4 z0 z1 z2 z3 z4 HS6 HU6x
          generalize w6.setCell ⟨A, 4, none⟩ (.slice ao6 ([] : List ByteArray).length cap6) = w5 at *
          have HU5 := Lib.hid (HU.out.trans hu5 (fun x hx => .inr (by have := List.mem_singleton.1 hx; omega)))
          obtain ⟨a0, a1, a2, a3, a4, -⟩ := cells5 hA5
          clear hu5
          have hwi := cwith_c ((HX.out.more (grow_sub Y w)).upd0 HU5.out) hlen k hk ⟨m.r, m.e, m.st, m.ow, []⟩ HS5.out HYO5.out (m.st + 1) (by first | rfl | (show _ = _ + 1; omega))
          have HWI := Lib.hid hwi
          clear hwi
          go_wp2_with (fail)
          refine HWI.out.mono ?_
          rintro e w6 ⟨ao6, cap6, rfl, hX6, hu6⟩
          have HX6 := Lib.hid (hX6.more (grow2 HU5.out.size))
          have HU6 := Lib.hid (HU5.out.trans' hu6)
          clear hX6 hu6 a0 a1 a2 a3 a4
          go_wp2_with (fail)
          have hln : (setL (ps.map Prod.fst) k ⟨m.r, m.e, m.st, m.ow, []⟩).length = ps.length := by unfold setL; simp
          refine bodyPost_ret (v := .tuple #[.slice ao6 ps.length cap6, .string s, .bool false, i64 0]) (by simp [results, Try.results60, go_sem, *]) rfl ?_
          refine hR.out _ _ ?_
          refine ⟨ao6, cap6, by rw [hln], ?_, HU6.out⟩
          rw [hln]
          exact ⟨_, set_map _ _ _ _, HX6.out⟩
        · have hv : Sub w1 0 9 1 (.slice (some ⟨gc, offc + 1, none⟩) r.length (cc - 1)) r.length (strs r) := Sub.tail hsb1
          clear hsb1 a0 a1 a2 a3 a4 y0 y1 y2 y3 y4
          obtain ⟨ao6, cap6, w6, hr6, hs6, hu6⟩ := run_copy_str hv (by first | omega | decide)
          have HR6 := Lib.hid hr6
          have hA6 := hu6.keep0 hA
          have t5 := lt_of_heap hA
          have t6 := lt_of_heap hA6
          obtain ⟨a0, a1, a2, a3, a4, -⟩ := cells5 hA
          obtain ⟨e0, e1, e2, e3, e4, z0, z1, z2, z3, z4⟩ := cells5 hA6
          have HYO5 := Lib.hid (fun x hx => .inr (Nat.le_trans HU.out.size (hs6.lt x hx).1) : ∀ x ∈ blkL (.slice ao6 (r : List ByteArray).length cap6), grow Y w x)
          have HS6 := Lib.hid (hs6.mono (Nat.zero_le _))
          have HU6x := Lib.hid (HU.out.trans' hu6)
          clear hr6 hs6 hu6 hv
          go_upto_region 9 with (at_builtin; (refine wpList_append_run _ rfl _ _ 38 rfl rfl rfl HR6.out ?_; clear HR6))
          have hA5 := hset5_4 (v := .slice ao6 (r : List ByteArray).length cap6) hA6
          have hu5 : Upd [A] w6 (w6.setCell ⟨A, 4, none⟩ (.slice ao6 (r : List ByteArray).length cap6)) := (Upd.refl _ _).setCell (by simp) _
          have HS5 := Lib.hid (HS6.out.upd hu5 (fun x hx hm => by
            obtain ⟨c2, h2⟩ := HS6.out.ty x hx
            have := List.mem_singleton.1 hm; subst this
            exact cells_ne hA6 h2 (by decide) rfl))
          have HU := HU6x
          clear hA hA6 t5 t6 a0 a1 a2 a3 a4 e0 e1 e2 e3 e4 z0 z1 z2 z3 z4 HS6 HU6x
          generalize w6.setCell ⟨A, 4, none⟩ (.slice ao6 (r : List ByteArray).length cap6) = w5 at *
          have HU5 := Lib.hid (HU.out.trans hu5 (fun x hx => .inr (by have := List.mem_singleton.1 hx; omega)))
          obtain ⟨a0, a1, a2, a3, a4, -⟩ := cells5 hA5
          clear hu5
          have hwi := cwith_c ((HX.out.more (grow_sub Y w)).upd0 HU5.out) hlen k hk ⟨m.r, m.e, m.st, m.ow, r⟩ HS5.out HYO5.out (m.st + 1) (by first | rfl | (show _ = _ + 1; omega))
          have HWI := Lib.hid hwi
          clear hwi
          go_wp2_with (fail)
          refine HWI.out.mono ?_
          rintro e w6 ⟨ao6, cap6, rfl, hX6, hu6⟩
          have HX6 := Lib.hid (hX6.more (grow2 HU5.out.size))
          have HU6 := Lib.hid (HU5.out.trans' hu6)
          clear hX6 hu6 a0 a1 a2 a3 a4
          go_wp2_with (fail)
          have hln : (setL (ps.map Prod.fst) k ⟨m.r, m.e, m.st, m.ow, r⟩).length = ps.length := by unfold setL; simp
          refine bodyPost_ret (v := .tuple #[.slice ao6 ps.length cap6, .string s, .bool false, i64 0]) (by simp [results, Try.results60, go_sem, *]) rfl ?_
          refine hR.out _ _ ?_
          refine ⟨ao6, cap6, by rw [hln], ?_, HU6.out⟩
          rw [hln]
          exact ⟨_, set_map _ _ _ _, HX6.out⟩
end
end Go.Proofs.Ytagadbgbicebaaa

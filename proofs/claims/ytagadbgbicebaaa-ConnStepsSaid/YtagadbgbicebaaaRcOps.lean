/-
  The contracts of the document's Owner, Takes, Bind, Shut, Drop, Open (concourseref38) on a table as one notion. Condition: sixteen connections at most.
-/
import Derived.Test.YtagadbgbicebaaaRcTbl
namespace Go.Proofs.Ytagadbgbicebaaa
open Go Go.RowKit

/-- the document's table -/
def RcAt (w : World) (Y : Nat → Prop) (v : Value) (l : List Ln) : Prop := ∃ ps : List (Ln × Value), ps.map Prod.fst = l ∧ RcX w Y v ps
section
variable {w w' : World} {Y Z : Nat → Prop} {v : Value} {l : List Ln}
theorem RcAt.upd (h : RcAt w Y v l) {S : List Nat} (hu : Upd S w w') (hS : ∀ x ∈ S, ¬ Y x) : RcAt w' Y v l := by
  obtain ⟨ps, h1, h2⟩ := h
  exact ⟨ps, h1, h2.upd hu hS⟩
theorem RcAt.upd0 (h : RcAt w Y v l) (hu : Upd [] w w') : RcAt w' Y v l := h.upd hu (by simp)
theorem RcAt.more (h : RcAt w Y v l) (hy : ∀ x, Y x → Z x) : RcAt w Z v l := by
  obtain ⟨ps, h1, h2⟩ := h
  exact ⟨ps, h1, h2.more hy⟩
theorem RcAt.cut (h : RcAt w Y v l) : RcAt w (cutZ Y w) v l := by
  obtain ⟨ps, h1, h2⟩ := h
  exact ⟨ps, h1, h2.cut⟩
theorem RcAt.updP (h : RcAt w Y v l) (hp : UpdP Z w w') (hd : ∀ x, Y x → x < w.heap.size ∧ ¬ Z x) : RcAt w' Y v l := by
  obtain ⟨S, hu, hs⟩ := hp
  refine h.upd hu fun x hx hy => ?_
  obtain ⟨h1, h2⟩ := hd x hy
  rcases hs x hx with q | q
  · exact h2 q
  · omega
theorem RcAt.form (h : RcAt w Y v l) : ∃ ao cap, v = .slice ao l.length cap := by
  obtain ⟨ps, rfl, h2⟩ := h
  obtain ⟨ao, cap, e, -⟩ := h2.form
  exact ⟨ao, cap, by rw [List.length_map]; exact e⟩
theorem lnAt_map {ps : List (Ln × Value)} {n : Int} {m : Ln} (h : lnAt (ps.map Prod.fst) n = some m) : ∃ (k : Nat) (hk : k < ps.length), n = k ∧ ps[k].1 = m ∧ thereN n ps.length = true := by
  obtain ⟨h0, h1, h2⟩ := lnAt_some h
  rw [List.length_map] at h2
  have hk : n.toNat < ps.length := by omega
  refine ⟨n.toNat, hk, by omega, ?_, decide_eq_true (by omega)⟩
  rw [List.getElem?_map, List.getElem?_eq_getElem hk] at h1
  simpa using h1
theorem lnAt_nomap {ps : List (Ln × Value)} {n : Int} (h : lnAt (ps.map Prod.fst) n = none) : thereN n ps.length = false := by
  have := lnAt_none h
  rw [List.length_map] at this
  exact decide_eq_false (by omega)
theorem set_map (ps : List (Ln × Value)) (k : Nat) (m : Ln) (c : Value) : (ps.set k (m, c)).map Prod.fst = setL (ps.map Prod.fst) k m := by
  unfold setL
  rw [List.map_set]; rfl
end

theorem grow2 {Z : Nat → Prop} {w w' : World} (h : w.heap.size ≤ w'.heap.size) : ∀ x, grow (grow Z w) w' x → grow Z w x := fun x q => by
  rcases q with q | q
  · exact q
  · exact .inr (Nat.le_trans h q)
section
variable {w : World} {Y : Nat → Prop} {v : Value} {l : List Ln}

theorem cowner38_c (h : RcAt w Y v l) (n : Int) : Calls Try.prog 62 #[v, i64 n] w fun e w' => e = .returned (i64 (towner l n)) ∧ w = w' := by
  obtain ⟨ps, rfl, hX⟩ := h
  obtain ⟨ao, cap, rfl, hcap, hrow⟩ := hX.form
  have hth := cthere_c ao ps.length cap n w
  unfold towner
  cases hl : lnAt (ps.map Prod.fst) n with
  | none =>
    rw [lnAt_nomap hl] at hth
    have HT := Lib.hid hth
    clear hth hX hrow hl
    refine post fun R hR => ?_
    go_enter Try.func62, Try.ntmps62
    go_wp2_with (fail)
    refine HT.out.mono ?_
    rintro e w2 ⟨rfl, rfl⟩
    go_wp2_with (fail)
    exact hR.out _ _ ⟨rfl, rfl⟩
  | some m =>
    obtain ⟨k, hk, rfl, hm, ht⟩ := lnAt_map hl
    obtain ⟨g, off, rfl, -⟩ := hrow (by omega)
    obtain ⟨-, c1, -⟩ := hX.get hk
    rw [ht] at hth
    rw [hm] at c1
    have HT := Lib.hid hth
    have hkl : (k : Int) < ps.length := by omega
    clear hth hX hrow hl ht hm
    refine post fun R hR => ?_
    go_enter Try.func62, Try.ntmps62
    go_wp2_with (fail)
    refine HT.out.mono ?_
    rintro e w2 ⟨rfl, rfl⟩
    go_wp2_with (fail)
    exact hR.out _ _ ⟨rfl, rfl⟩

theorem ctakes38_c (h : RcAt w Y v l) (n : Int) : Calls Try.prog 63 #[v, i64 n] w fun e w' => e = .returned (.bool (ttakes l n)) ∧ w = w' := by
  obtain ⟨ps, rfl, hX⟩ := h
  obtain ⟨ao, cap, rfl, hcap, hrow⟩ := hX.form
  have hth := cthere_c ao ps.length cap n w
  unfold ttakes
  cases hl : lnAt (ps.map Prod.fst) n with
  | none =>
    rw [lnAt_nomap hl] at hth
    have HT := Lib.hid hth
    clear hth hX hrow hl
    refine post fun R hR => ?_
    go_enter Try.func63, Try.ntmps63
    go_wp2_with (fail)
    refine HT.out.mono ?_
    rintro e w2 ⟨rfl, rfl⟩
    go_wp2_with (fail)
    exact hR.out _ _ ⟨rfl, rfl⟩
  | some m =>
    obtain ⟨k, hk, rfl, hm, ht⟩ := lnAt_map hl
    obtain ⟨g, off, rfl, -⟩ := hrow (by omega)
    obtain ⟨c0, -⟩ := hX.get hk
    rw [ht] at hth
    rw [hm] at c0
    have HT := Lib.hid hth
    have hkl : (k : Int) < ps.length := by omega
    have hx : decide (m.st + 1 ≤ 2) = decide (m.st < 2) := decide_eq_decide.2 (by omega)
    have HX := Lib.hid hx
    generalize hs1 : m.st + 1 = s1 at *
    clear hth hX hrow hl ht hm hs1 hx
    refine post fun R hR => ?_
    go_enter Try.func63, Try.ntmps63
    go_wp2_with (fail)
    refine HT.out.mono ?_
    rintro e w2 ⟨rfl, rfl⟩
    go_wp2_with (fail)
    exact hR.out _ _ ⟨by rw [← HX.out]; rfl, rfl⟩

set_option maxRecDepth 100000 in
set_option maxHeartbeats 2000000 in
theorem cshut38_c (h : RcAt w Y v l) (hlen : l.length ≤ 16) (n : Int) :
    Calls Try.prog 57 #[v, i64 n] w fun e w' => ∃ ao cap, e = .returned (.tuple #[.slice ao (tshL l n).length cap, i64 (tshE l n)]) ∧ RcAt w' (grow Y w) (.slice ao (tshL l n).length cap) (tshL l n) ∧ Upd [] w w' := by
  obtain ⟨ps, rfl, hX⟩ := h
  rw [List.length_map] at hlen
  obtain ⟨ao, cap, rfl, hcap, hrow⟩ := hX.form
  have hth := fun w => cthere_c ao ps.length cap n w
  unfold tshL tshE
  cases hl : lnAt (ps.map Prod.fst) n with
  | none =>
    rw [lnAt_nomap hl] at hth
    have HT := Lib.hid hth
    have HX := Lib.hid hX
    clear hth hX hrow hl
    simp only [List.length_map]
    refine post fun R hR => ?_
    go_enter Try.func57, Try.ntmps57
    go_wp2_with (fail)
    refine (HT.out _).mono ?_
    rintro e w2 ⟨rfl, rfl⟩
    go_wp2_with (fail)
    exact hR.out _ _ ⟨_, _, rfl, ⟨ps, rfl, HX.out.more (grow_sub Y w)⟩, Upd.refl _ _⟩
  | some m =>
    obtain ⟨k, hk, rfl, hm, ht⟩ := lnAt_map hl
    obtain ⟨g, off, rfl, hg⟩ := hrow (by omega)
    rw [ht] at hth
    obtain ⟨c0, c1, c2, c3, c4⟩ := hX.get hk
    have hsub := hX.out _ (List.getElem_mem hk)
    have hyo := hX.yo _ (List.getElem_mem hk)
    rw [hm] at c0 c1 c2 c3 hsub
    obtain ⟨ca, cc, hcv, -⟩ := hsub.form
    rw [hcv] at c4 hsub hyo
    have hkl : (k : Int) < ps.length := by omega
    have HT := Lib.hid hth
    have HX := Lib.hid hX
    have HSUB := Lib.hid hsub
    have HYO := Lib.hid hyo
    have hA := heap_alloc_new w (.cells #[i64 (m.st + 1), i64 m.ow, .string m.r, i64 m.e, .slice ca m.out.length cc] 103)
    have hu := (Upd.refl [] w).alloc (.cells #[i64 (m.st + 1), i64 m.ow, .string m.r, i64 m.e, .slice ca m.out.length cc] 103)
    obtain ⟨A, hAe⟩ : ∃ A, A = w.heap.size := ⟨_, rfl⟩
    rw [← hAe] at hA
    have hAw : w.heap.size ≤ A := by omega
    have HA := Lib.hid hA
    have HU := Lib.hid hu
    clear hth hX hrow hl ht hm hcv hsub hyo hA hu
    by_cases hst : m.st < 2
    · simp only [if_pos hst]
      refine post fun R hR => ?_
      go_enter Try.func57, Try.ntmps57
      go_wp2_with (fail)
      refine (HT.out _).mono ?_
      rintro e w2 ⟨rfl, rfl⟩
      go_upto_region 4 with (fail)
      rw [← hAe]
      have hA := HA.out
      clear hAe HA c0 c1 c2 c3 c4
      generalize w.alloc (.cells #[i64 (m.st + 1), i64 m.ow, .string m.r, i64 m.e, .slice ca m.out.length cc] 103) = w1 at *
      have t1 := lt_of_heap hA
      obtain ⟨a0, a1, a2, a3, a4, y0, y1, y2, y3, y4⟩ := cells5 hA
      go_upto_region 7 with (fail)
      have hA5 := hset5_0 (v := i64 3) hA
      have hu5 : Upd [A] w1 (w1.setCell ⟨A, 0, none⟩ (i64 3)) := (Upd.refl _ _).setCell (by simp) _
      have HYO5 := Lib.hid (fun x hx => .inl (HYO.out x hx) : ∀ x ∈ blkL (.slice ca m.out.length cc), grow Y w x)
      clear hA t1 a0 a1 a2 a3 a4 y0 y1 y2 y3 y4
      generalize w1.setCell ⟨A, 0, none⟩ (i64 3) = w5 at *
      have HU5 := Lib.hid (HU.out.trans hu5 (fun x hx => .inr (by have := List.mem_singleton.1 hx; omega)))
      obtain ⟨a0, a1, a2, a3, a4, -⟩ := cells5 hA5
      clear hu5
      have HS5 := Lib.hid (HSUB.out.upd0 HU5.out)
      have hwi := cwith_c ((HX.out.more (grow_sub Y w)).upd0 HU5.out) hlen k hk { m with st := 2 } HS5.out HYO5.out 3 (by first | rfl | (show _ = _ + 1; omega))
      have HWI := Lib.hid hwi
      clear hwi
      go_wp2_with (fail)
      refine HWI.out.mono ?_
      rintro e w6 ⟨ao6, cap6, rfl, hX6, hu6⟩
      have HX6 := Lib.hid (hX6.more (grow2 HU5.out.size))
      have HU6 := Lib.hid (HU5.out.trans' hu6)
      clear hX6 hu6 a0 a1 a2 a3 a4
      go_wp2_with (fail)
      have hln : (setL (ps.map Prod.fst) k { m with st := 2 }).length = ps.length := by unfold setL; simp
      refine hR.out _ _ ⟨ao6, cap6, by rw [hln]; rfl, ?_, HU6.out⟩
      rw [hln]
      exact ⟨_, set_map _ _ _ _, HX6.out⟩
    · simp only [if_neg hst]
      refine post fun R hR => ?_
      go_enter Try.func57, Try.ntmps57
      go_wp2_with (fail)
      refine (HT.out _).mono ?_
      rintro e w2 ⟨rfl, rfl⟩
      go_upto_region 4 with (fail)
      rw [← hAe]
      have hA := HA.out
      clear hAe HA c0 c1 c2 c3 c4
      generalize w.alloc (.cells #[i64 (m.st + 1), i64 m.ow, .string m.r, i64 m.e, .slice ca m.out.length cc] 103) = w1 at *
      have t1 := lt_of_heap hA
      obtain ⟨a0, a1, a2, a3, a4, y0, y1, y2, y3, y4⟩ := cells5 hA
      have HX2 := Lib.hid (show RcAt w1 (grow Y w) (.slice (some ⟨g, off, none⟩) ps.length cap) (ps.map Prod.fst) from ⟨ps, rfl, (HX.out.more (grow_sub Y w)).upd0 HU.out⟩)
      go_wp2_with (fail)
      refine hR.out _ _ ⟨_, _, by rw [List.length_map]; rfl, ?_, HU.out⟩
      rw [List.length_map]
      exact HX2.out

set_option maxRecDepth 100000 in
set_option maxHeartbeats 2000000 in
theorem cbind38_c (h : RcAt w Y v l) (hlen : l.length ≤ 16) (n o : Int) :
    Calls Try.prog 56 #[v, i64 n, i64 o] w fun e w' => ∃ ao cap, e = .returned (.tuple #[.slice ao (tbiL l n o).length cap, i64 (tbiE l n o)]) ∧ RcAt w' (grow Y w) (.slice ao (tbiL l n o).length cap) (tbiL l n o) ∧ Upd [] w w' := by
  obtain ⟨ps, rfl, hX⟩ := h
  rw [List.length_map] at hlen
  obtain ⟨ao, cap, rfl, hcap, hrow⟩ := hX.form
  have hth := fun w => cthere_c ao ps.length cap n w
  unfold tbiL tbiE
  cases hl : lnAt (ps.map Prod.fst) n with
  | none =>
    rw [lnAt_nomap hl] at hth
    have HT := Lib.hid hth
    have HX := Lib.hid hX
    clear hth hX hrow hl
    simp only [List.length_map]
    refine post fun R hR => ?_
    go_enter Try.func56, Try.ntmps56
    go_wp2_with (fail)
    refine (HT.out _).mono ?_
    rintro e w2 ⟨rfl, rfl⟩
    go_wp2_with (fail)
    exact hR.out _ _ ⟨_, _, rfl, ⟨ps, rfl, HX.out.more (grow_sub Y w)⟩, Upd.refl _ _⟩
  | some m =>
    obtain ⟨k, hk, rfl, hm, ht⟩ := lnAt_map hl
    obtain ⟨g, off, rfl, hg⟩ := hrow (by omega)
    rw [ht] at hth
    obtain ⟨c0, c1, c2, c3, c4⟩ := hX.get hk
    have hsub := hX.out _ (List.getElem_mem hk)
    have hyo := hX.yo _ (List.getElem_mem hk)
    rw [hm] at c0 c1 c2 c3 hsub
    obtain ⟨ca, cc, hcv, -⟩ := hsub.form
    rw [hcv] at c4 hsub hyo
    have hkl : (k : Int) < ps.length := by omega
    have HT := Lib.hid hth
    have HX := Lib.hid hX
    have HSUB := Lib.hid hsub
    have HYO := Lib.hid hyo
    have hA := heap_alloc_new w (.cells #[i64 (m.st + 1), i64 m.ow, .string m.r, i64 m.e, .slice ca m.out.length cc] 103)
    have hu := (Upd.refl [] w).alloc (.cells #[i64 (m.st + 1), i64 m.ow, .string m.r, i64 m.e, .slice ca m.out.length cc] 103)
    obtain ⟨A, hAe⟩ : ∃ A, A = w.heap.size := ⟨_, rfl⟩
    rw [← hAe] at hA
    have hAw : w.heap.size ≤ A := by omega
    have HA := Lib.hid hA
    have HU := Lib.hid hu
    clear hth hX hrow hl ht hm hcv hsub hyo hA hu
    by_cases ho : o < 0 ∨ 8 < o
    · simp only [if_pos ho]
      simp only [List.length_map]
      have HX2 := Lib.hid (show RcAt w (grow Y w) (.slice (some ⟨g, off, none⟩) ps.length cap) (ps.map Prod.fst) from ⟨ps, rfl, HX.out.more (grow_sub Y w)⟩)
      clear hAe HA HU c0 c1 c2 c3 c4
      by_cases ho1 : o < 0
      · clear ho
        refine post fun R hR => ?_
        go_enter Try.func56, Try.ntmps56
        go_wp2_with (fail)
        refine (HT.out _).mono ?_
        rintro e w2 ⟨rfl, rfl⟩
        go_wp2_with (fail)
        exact hR.out _ _ ⟨_, _, rfl, HX2.out, Upd.refl _ _⟩
      · have ho8 : 8 < o := by omega
        clear ho
        refine post fun R hR => ?_
        go_enter Try.func56, Try.ntmps56
        go_wp2_with (fail)
        refine (HT.out _).mono ?_
        rintro e w2 ⟨rfl, rfl⟩
        go_wp2_with (fail)
        exact hR.out _ _ ⟨_, _, rfl, HX2.out, Upd.refl _ _⟩
    · have ho1 : 0 ≤ o := by omega
      have ho2 : o ≤ 8 := by omega
      simp only [if_neg ho]
      clear ho
      by_cases hst : m.st = 0
      · simp only [if_pos hst]
        have hq : (m.st + 1 != 1) = false := by simp [hst]
        have hst2 := Lib.hid hst
        clear hst
        refine post fun R hR => ?_
        go_enter Try.func56, Try.ntmps56
        go_wp2_with (fail)
        refine (HT.out _).mono ?_
        rintro e w2 ⟨rfl, rfl⟩
        go_upto_region 6 with (fail)
        rw [← hAe]
        have hA := HA.out
        clear hAe HA c0 c1 c2 c3 c4
        generalize w.alloc (.cells #[i64 (m.st + 1), i64 m.ow, .string m.r, i64 m.e, .slice ca m.out.length cc] 103) = w1 at *
        have t1 := lt_of_heap hA
        obtain ⟨a0, a1, a2, a3, a4, y0, y1, y2, y3, y4⟩ := cells5 hA
        go_upto_region 10 with (fail)
        have hA5 := hset5_1 (v := i64 o) (hset5_0 (v := i64 2) hA)
        have hu5 : Upd [A] w1 ((w1.setCell ⟨A, 0, none⟩ (i64 2)).setCell ⟨A, 1, none⟩ (i64 o)) := ((Upd.refl _ _).setCell (by simp) _).setCell (by simp) _
        have HYO5 := Lib.hid (fun x hx => .inl (HYO.out x hx) : ∀ x ∈ blkL (.slice ca m.out.length cc), grow Y w x)
        clear hA t1 a0 a1 a2 a3 a4 y0 y1 y2 y3 y4
        generalize (w1.setCell ⟨A, 0, none⟩ (i64 2)).setCell ⟨A, 1, none⟩ (i64 o) = w5 at *
        have HU5 := Lib.hid (HU.out.trans hu5 (fun x hx => .inr (by have := List.mem_singleton.1 hx; omega)))
        obtain ⟨a0, a1, a2, a3, a4, -⟩ := cells5 hA5
        clear hu5
        have HS5 := Lib.hid (HSUB.out.upd0 HU5.out)
        have hwi := cwith_c ((HX.out.more (grow_sub Y w)).upd0 HU5.out) hlen k hk { m with st := 1, ow := o } HS5.out HYO5.out 2 (by first | rfl | (show _ = _ + 1; omega))
        have HWI := Lib.hid hwi
        clear hwi
        go_wp2_with (fail)
        refine HWI.out.mono ?_
        rintro e w6 ⟨ao6, cap6, rfl, hX6, hu6⟩
        have HX6 := Lib.hid (hX6.more (grow2 HU5.out.size))
        have HU6 := Lib.hid (HU5.out.trans' hu6)
        clear hX6 hu6 a0 a1 a2 a3 a4
        go_wp2_with (fail)
        have hln : (setL (ps.map Prod.fst) k { m with st := 1, ow := o }).length = ps.length := by unfold setL; simp
        refine hR.out _ _ ⟨ao6, cap6, by rw [hln]; rfl, ?_, HU6.out⟩
        rw [hln]
        exact ⟨_, set_map _ _ _ _, HX6.out⟩
      · simp only [if_neg hst]
        have hq : (m.st + 1 != 1) = true := by simp; omega
        refine post fun R hR => ?_
        go_enter Try.func56, Try.ntmps56
        go_wp2_with (fail)
        refine (HT.out _).mono ?_
        rintro e w2 ⟨rfl, rfl⟩
        go_upto_region 6 with (fail)
        rw [← hAe]
        have hA := HA.out
        clear hAe HA c0 c1 c2 c3 c4
        generalize w.alloc (.cells #[i64 (m.st + 1), i64 m.ow, .string m.r, i64 m.e, .slice ca m.out.length cc] 103) = w1 at *
        have t1 := lt_of_heap hA
        obtain ⟨a0, a1, a2, a3, a4, y0, y1, y2, y3, y4⟩ := cells5 hA
        have HX2 := Lib.hid (show RcAt w1 (grow Y w) (.slice (some ⟨g, off, none⟩) ps.length cap) (ps.map Prod.fst) from ⟨ps, rfl, (HX.out.more (grow_sub Y w)).upd0 HU.out⟩)
        go_wp2_with (fail)
        refine hR.out _ _ ⟨_, _, by rw [List.length_map]; rfl, ?_, HU.out⟩
        rw [List.length_map]
        exact HX2.out

set_option maxRecDepth 100000 in
set_option maxHeartbeats 2000000 in
theorem cdrop38_c (h : RcAt w Y v l) (hlen : l.length ≤ 16) (n : Int) :
    Calls Try.prog 58 #[v, i64 n] w fun e w' => ∃ ao cap, e = .returned (.tuple #[.slice ao (tdrL l n).length cap, i64 (twaits l n)]) ∧ RcAt w' (grow Y w) (.slice ao (tdrL l n).length cap) (tdrL l n) ∧ Upd [] w w' := by
  obtain ⟨ps, rfl, hX⟩ := h
  rw [List.length_map] at hlen
  obtain ⟨ao, cap, rfl, hcap, hrow⟩ := hX.form
  have hth := fun w => cthere_c ao ps.length cap n w
  unfold tdrL twaits
  cases hl : lnAt (ps.map Prod.fst) n with
  | none =>
    rw [lnAt_nomap hl] at hth
    have HT := Lib.hid hth
    have HX := Lib.hid hX
    clear hth hX hrow hl
    simp only [List.length_map]
    refine post fun R hR => ?_
    go_enter Try.func58, Try.ntmps58
    go_wp2_with (fail)
    refine (HT.out _).mono ?_
    rintro e w2 ⟨rfl, rfl⟩
    go_wp2_with (fail)
    exact hR.out _ _ ⟨_, _, rfl, ⟨ps, rfl, HX.out.more (grow_sub Y w)⟩, Upd.refl _ _⟩
  | some m =>
    obtain ⟨k, hk, rfl, hm, ht⟩ := lnAt_map hl
    obtain ⟨g, off, rfl, hg⟩ := hrow (by omega)
    rw [ht] at hth
    obtain ⟨c0, c1, c2, c3, c4⟩ := hX.get hk
    have hsub := hX.out _ (List.getElem_mem hk)
    have hyo := hX.yo _ (List.getElem_mem hk)
    rw [hm] at c0 c1 c2 c3 hsub
    obtain ⟨ca, cc, hcv, -⟩ := hsub.form
    rw [hcv] at c4 hsub hyo
    have hkl : (k : Int) < ps.length := by omega
    have HT := Lib.hid hth
    have HX := Lib.hid hX
    have HSUB := Lib.hid hsub
    have HYO := Lib.hid hyo
    have hA := heap_alloc_new w (.cells #[i64 (m.st + 1), i64 m.ow, .string m.r, i64 m.e, .slice ca m.out.length cc] 103)
    have hu := (Upd.refl [] w).alloc (.cells #[i64 (m.st + 1), i64 m.ow, .string m.r, i64 m.e, .slice ca m.out.length cc] 103)
    obtain ⟨A, hAe⟩ : ∃ A, A = w.heap.size := ⟨_, rfl⟩
    rw [← hAe] at hA
    have hAw : w.heap.size ≤ A := by omega
    have HA := Lib.hid hA
    have HU := Lib.hid hu
    clear hth hX hrow hl ht hm hcv hsub hyo hA hu
    refine post fun R hR => ?_
    go_enter Try.func58, Try.ntmps58
    go_wp2_with (fail)
    refine (HT.out _).mono ?_
    rintro e w2 ⟨rfl, rfl⟩
    go_upto_region 4 with (fail)
    rw [← hAe]
    have hA := HA.out
    clear hAe HA c0 c1 c2 c3 c4
    generalize w.alloc (.cells #[i64 (m.st + 1), i64 m.ow, .string m.r, i64 m.e, .slice ca m.out.length cc] 103) = w1 at *
    have t1 := lt_of_heap hA
    obtain ⟨a0, a1, a2, a3, a4, y0, y1, y2, y3, y4⟩ := cells5 hA
    go_upto_region 7 with (fail)
    have hA5 := hset5_4 (v := .slice none 0 0) (hset5_0 (v := i64 4) hA)
    have hu5 : Upd [A] w1 ((w1.setCell ⟨A, 0, none⟩ (i64 4)).setCell ⟨A, 4, none⟩ (.slice none 0 0)) := ((Upd.refl _ _).setCell (by simp) _).setCell (by simp) _
    have HYO5 := Lib.hid (fun x hx => by simp [blkL] at hx : ∀ x ∈ blkL (.slice none 0 0), grow Y w x)
    clear hA t1 a0 a1 a2 a3 a4 y0 y1 y2 y3 y4
    generalize (w1.setCell ⟨A, 0, none⟩ (i64 4)).setCell ⟨A, 4, none⟩ (.slice none 0 0) = w5 at *
    have HU5 := Lib.hid (HU.out.trans hu5 (fun x hx => .inr (by have := List.mem_singleton.1 hx; omega)))
    obtain ⟨a0, a1, a2, a3, a4, -⟩ := cells5 hA5
    clear hu5
    have HS5 : Hid (Sub w5 0 9 1 (.slice none 0 0) 0 (strs [])) := Lib.hid (sub_nil _ _ _ _)
    have hwi := cwith_c ((HX.out.more (grow_sub Y w)).upd0 HU5.out) hlen k hk { m with st := 3, out := [] } HS5.out HYO5.out 4 (by first | rfl | (show _ = _ + 1; omega))
    have HWI := Lib.hid hwi
    clear hwi
    go_wp2_with (fail)
    refine HWI.out.mono ?_
    rintro e w6 ⟨ao6, cap6, rfl, hX6, hu6⟩
    have HX6 := Lib.hid (hX6.more (grow2 HU5.out.size))
    have HU6 := Lib.hid (HU5.out.trans' hu6)
    clear hX6 hu6 a0 a1 a2 a3 a4
    go_wp2_with (fail)
    have hln : (setL (ps.map Prod.fst) k { m with st := 3, out := [] }).length = ps.length := by unfold setL; simp
    refine hR.out _ _ ⟨ao6, cap6, by rw [hln]; rfl, ?_, HU6.out⟩
    rw [hln]
    exact ⟨_, set_map _ _ _ _, HX6.out⟩

set_option maxRecDepth 100000 in
set_option maxHeartbeats 2000000 in
theorem copen38_c (h : RcAt w Y v l) :
    Calls Try.prog 54 #[v] w fun e w' => ∃ ao cap, e = .returned (.tuple #[.slice ao (topL l).length cap, i64 (topN l), i64 (topE l)]) ∧ RcAt w' (grow Y w) (.slice ao (topL l).length cap) (topL l) ∧ Upd [] w w' := by
  obtain ⟨ps, rfl, hX⟩ := h
  obtain ⟨ao, cap, rfl, hcap, hrow⟩ := hX.form
  unfold topL topN topE
  rw [List.length_map]
  by_cases h16 : 16 ≤ ps.length
  · simp only [if_pos h16, List.length_map]
    have HX := Lib.hid hX
    clear hX hrow
    refine post fun R hR => ?_
    go_enter Try.func54, Try.ntmps54
    go_wp2_with (fail)
    exact hR.out _ _ ⟨_, _, rfl, ⟨ps, rfl, HX.out.more (grow_sub Y w)⟩, Upd.refl _ _⟩
  · simp only [if_neg h16, List.length_append, List.length_map, List.length_cons, List.length_nil, Nat.zero_add]
    obtain ⟨i0, hi, hz0, hz1, hz2⟩ := info_parts info_rcn
    obtain ⟨ao1, cap1, w1, hr1, hs1, hu1⟩ := run_copy_cn hX (by omega)
    obtain ⟨ao2, cap2, w2, hr2, hs2, hu2, hb2⟩ := run_append_sl (P := Try.prog) (w := w1.alloc (.cells #[i64 1, i64 (-1), .string ⟨#[]⟩, i64 0, .slice none 0 0] 103)) w.heap.size 73 73 103 i0 _ 5 64 Try.underlying73 hi hz0 hz1 hz2 rfl (by decide) (hs1.upd0 ((Upd.refl [] w1).alloc _)) (src_block (heap_alloc_new _ _) 1 1) rfl (by intro u hu; simp at hu; rcases hu with rfl | rfl | rfl | rfl | rfl <;> rfl) (by unfold maxLen; omega) (by omega) (by have := hu1.size; simp; omega)
    have hx2 : Upd [] w w2 := (hu1.alloc _).trans hu2 (fun x hx => .inr (hs1.lt x hx).1)
    have hX2 : RcX w2 (grow Y w) (.slice ao2 (ps.length + 1) cap2) (ps ++ [(Ln.new, .slice none 0 0)]) := by
      refine ⟨?_, fun p hp => ?_, fun x hx => .inr (hs2.lt x hx).1, fun p hp x hx => ?_⟩
      · rw [List.length_append, ccs_append]; exact hs2.mono (Nat.zero_le _)
      · rcases List.mem_append.1 hp with q | q
        · exact (hX.out p q).upd0 hx2
        · simp at q; subst q; exact sub_nil _ _ _ _
      · rcases List.mem_append.1 hp with q | q
        · exact .inl (hX.yo p q x hx)
        · simp at q; subst q; simp [blkL] at hx
    have HR1 := Lib.hid hr1
    have HR2 := Lib.hid hr2
    have HX2 := Lib.hid hX2
    have HU2 := Lib.hid hx2
    clear hX hrow hr1 hr2 hs1 hs2 hu1 hu2 hb2 hx2 hX2 hi hz0 hz1 hz2
    refine post fun R hR => ?_
    go_enter Try.func54, Try.ntmps54
    go_wp2_with (at_builtin; first | (refine wpList_append_run _ rfl _ _ 73 rfl rfl rfl HR1.out ?_; clear HR1) | (refine wpList_append_run _ rfl _ _ 73 rfl rfl rfl HR2.out ?_; clear HR2))
    exact hR.out _ _ ⟨_, _, rfl, ⟨_, by rw [List.map_append]; rfl, HX2.out⟩, HU2.out⟩
end
end Go.Proofs.Ytagadbgbicebaaa

/-
  The contract of the document's flows' Next (concourseref40). Condition: rows of some hundred items at most.
-/
import Derived.Test.YtabhdigannalgaaR4Push
namespace Go.Proofs.Ytabhdigannalgaa
open Go Go.RowKit Go.Maps

theorem at_slice40 (x : Value) (lo hi mx : Option Value) (w : World) : (Instr.sliceAt 85 x lo hi mx).run Try.prog w = (Instr.slice 85 x lo hi mx).run Try.prog w := by
  simp [Instr.sliceAt, run_underlying Try.underlying85]
theorem run_tail40 {g off n cap : Nat} (_hn : n + 1 ≤ cap) (hc : cap ≠ 1) (w : World) : (Instr.sliceAt 85 (.slice (some ⟨g, off, none⟩) (n + 1) cap) (some (i64 1)) none none).run Try.prog w = .ok (.slice (some ⟨g, off + 5, none⟩) n (cap - 1)) w := by
  obtain ⟨i0, hi, hz0, hz1, hz2⟩ := info_parts info_item40
  have ht := Try.underlying85
  have h1 : (1 : Int) ≤ (n : Int) + 1 := by omega
  rw [at_slice40]
  simp [Instr.slice, run_underlying ht, Instr.sliceBounds, Instr.sliceBound, asIntOf, sizeOf, typeInfo, hi, hz1, go_sem, hc, h1]
theorem run_tail40_0 {g off n : Nat} (hn : n = 0) (w : World) : (Instr.sliceAt 85 (.slice (some ⟨g, off, none⟩) (n + 1) 1) (some (i64 1)) none none).run Try.prog w = .ok (.slice (some ⟨g, off, none⟩) n 0) w := by
  obtain ⟨i0, hi, hz0, hz1, hz2⟩ := info_parts info_item40
  have ht := Try.underlying85
  subst hn
  rw [at_slice40]
  simp [Instr.slice, run_underlying ht, Instr.sliceBounds, Instr.sliceBound, asIntOf, sizeOf, typeInfo, hi, go_sem]

section
variable {w : World} {Y : Nat → Prop} {fv rv xv : Value} {r : Rg} {its : Nat → List It}

set_option maxRecDepth 100000 in
set_option maxHeartbeats 4000000 in
theorem r4next_c (h : R4 w Y fv rv xv r its) (hok : r.ok) (hlk : Linked r its) {K : Nat} (hsm : r.small K) (hK : K ≤ 900) (hlen : ∀ j, j < 9 → (its j).length ≤ K) :
    Calls Try.prog 44 #[.agg #[fv, rv, xv]] w fun e w' => ∃ fv' rv' xv', e = .returned (.tuple #[.agg #[fv', rv', xv'], i64 r.turn.n, iv (nextX r its), .bool r.turn.ok]) ∧ R4 w' (grow Y w) fv' rv' xv' r.turn.r (nextI r its) ∧ Upd [] w w' := by
  have HOK := Lib.hid hok
  have HLK := Lib.hid hlk
  have HLEN := Lib.hid hlen
  clear hlen hlk
  obtain ⟨fa, fc, ra, rn, rc, xa, xc, rfl, rfl, rfl⟩ := h.shape
  have HF := Lib.hid h.1.cut
  have HX := Lib.hid h.2.cut
  clear h
  refine post fun R hR => ?_
  go_enter Try.func44, Try.ntmps44
  go_upto_region 1 with (fail)
  obtain ⟨A, hA⟩ : ∃ A, A = w.heap.size := ⟨_, rfl⟩
  have hAw : w.heap.size ≤ A := by omega
  have hA1 := heap_alloc_old (heap_alloc_old (heap_alloc_new w (.cells #[.slice fa 9 fc, .slice ra rn rc, .slice xa 9 xc] 81)) (.cells #[.slice none 0 0, .slice none 0 0, .slice none 0 0] 81)) (.cells #[i64 0, i64 0, i64 0, .string ⟨#[]⟩, i64 0] 68)
  have hA2 := heap_alloc_old (heap_new2 w (.cells #[.slice fa 9 fc, .slice ra rn rc, .slice xa 9 xc] 81) (.cells #[.slice none 0 0, .slice none 0 0, .slice none 0 0] 81)) (.cells #[i64 0, i64 0, i64 0, .string ⟨#[]⟩, i64 0] 68)
  have hA3 : ((((w.alloc (.cells #[.slice fa 9 fc, .slice ra rn rc, .slice xa 9 xc] 81)).alloc (.cells #[.slice none 0 0, .slice none 0 0, .slice none 0 0] 81)).alloc (.cells #[i64 0, i64 0, i64 0, .string ⟨#[]⟩, i64 0] 68)).heap)[w.heap.size + 1 + 1]? = _ := heap_new3 w (.cells #[.slice fa 9 fc, .slice ra rn rc, .slice xa 9 xc] 81) (.cells #[.slice none 0 0, .slice none 0 0, .slice none 0 0] 81) (.cells #[i64 0, i64 0, i64 0, .string ⟨#[]⟩, i64 0] 68)
  have hu0 := (((Upd.refl [] w).alloc (.cells #[.slice fa 9 fc, .slice ra rn rc, .slice xa 9 xc] 81)).alloc (.cells #[.slice none 0 0, .slice none 0 0, .slice none 0 0] 81)).alloc (.cells #[i64 0, i64 0, i64 0, .string ⟨#[]⟩, i64 0] 68)
  rw [← hA] at hA1 hA2 hA3 ⊢
  have hYA : ¬ cutZ Y w A := fun q => by have := q.2; omega
  have hYA1 : ¬ cutZ Y w (A + 1) := fun q => by have := q.2; omega
  have hYA2 : ¬ cutZ Y w (A + 1 + 1) := fun q => by have := q.2; omega
  clear hA
  generalize ((w.alloc (.cells #[.slice fa 9 fc, .slice ra rn rc, .slice xa 9 xc] 81)).alloc (.cells #[.slice none 0 0, .slice none 0 0, .slice none 0 0] 81)).alloc (.cells #[i64 0, i64 0, i64 0, .string ⟨#[]⟩, i64 0] 68) = w1 at *
  have hAz := lt_of_heap hA3
  have HGA : Hid (¬ grow (cutZ Y w) w1 A ∧ (∀ x ∈ [A + 1, A + 1 + 1], ¬ grow (cutZ Y w) w1 x) ∧ ∀ x, grow (cutZ Y w) w1 x → grow Y w x) := Lib.hid ⟨fun q => q.elim hYA (fun q => by omega), fun x hx q => by
    simp at hx
    rcases hx with rfl | rfl
    · exact q.elim hYA1 (fun q => by omega)
    · exact q.elim hYA2 (fun q => by omega), fun x q => q.imp (fun q => q.1) (Nat.le_trans hu0.size)⟩
  have HU0 := Lib.hid hu0
  have hts := rturn25_c (HF.out.upd0 hu0) hok hsm hK
  have HTS := Lib.hid hts
  have HAA := Lib.hid (And.intro hA2 hA3)
  have HAA0 := Lib.hid hA1
  have hs1 := lt_of_heap hA1
  obtain ⟨a0, a1, a2, p0, p1, p2⟩ := cells3 hA1
  clear hts hu0 hYA hYA1 hYA2 hA1 hA2 hA3
  cases ht : r.turn.ok with
  | false =>
    have htn := turn_not hok ht
    have HXX := Lib.hid (show nextX r its = It.zero from by unfold nextX; rw [if_neg (by rw [ht]; decide)])
    have HII := Lib.hid (show nextI r its = its from by unfold nextI; rw [if_neg (by rw [ht]; decide)])
    have HR0 := Lib.hid (show r.turn.r = r from by rw [htn])
    have HN0 := Lib.hid (show r.turn.n = 0 from by rw [htn])
    rw [ht] at HTS
    clear htn
    go_wp2_with (fail)
    refine HTS.out.mono ?_
    rintro e w2 ⟨fv2, rv2, rfl, hR2, hu2⟩
    have hA1 := HAA0.out
    have hA2 := HAA.out.1
    have hs2 := 0
    have b0 := 0
    have b1 := 0
    have b2 := 0
    have q0 := 0
    have q1 := 0
    have q2 := 0
    obtain ⟨fa2, fc2, ra2, rn2, rc2, rfl, rfl⟩ := hR2.shape2
    have hB1 := hu2.keep0 hA1
    have hB2 := hu2.keep0 hA2
    have HR2 := Lib.hid hR2
    have HU2 := Lib.hid (HU0.out.trans' hu2)
    have HU12 := Lib.hid hu2
    have HX2 := Lib.hid (((HX.out.upd0 HU0.out).upd0 hu2).more (fun x q => .inl q) : Rw40 w2 (grow (cutZ Y w) w1) (.slice xa 9 xc) its)
    have hw12 := hu2.size
    clear hA1 hA2 hs1 hs2 a0 a1 a2 p0 p1 p2 b0 b1 b2 q0 q1 q2 hR2 hu2
    have hs1 := lt_of_heap hB1
    have hs2 := lt_of_heap hB2
    obtain ⟨a0, a1, a2, p0, p1, p2⟩ := cells3 hB1
    obtain ⟨b0, b1, b2, q0, q1, q2⟩ := cells3 hB2
    go_upto_region 2 with (fail)
    obtain ⟨X, hX⟩ : ∃ X, X = w2.heap.size := ⟨_, rfl⟩
    have hC1 := heap_alloc_old hB1 (.cells #[.slice fa2 9 fc2, .slice ra2 rn2 rc2] 46)
    have hC2 := heap_alloc_old hB2 (.cells #[.slice fa2 9 fc2, .slice ra2 rn2 rc2] 46)
    have hC3 := heap_alloc_new w2 (.cells #[.slice fa2 9 fc2, .slice ra2 rn2 rc2] 46)
    have hux := (Upd.refl [] w2).alloc (.cells #[.slice fa2 9 fc2, .slice ra2 rn2 rc2] 46)
    have hAX : A + 1 < X := by omega
    rw [← hX] at hC3 ⊢
    clear hX hB1 hB2 hs1 hs2 a0 a1 a2 p0 p1 p2 b0 b1 b2 q0 q1 q2
    generalize w2.alloc (.cells #[.slice fa2 9 fc2, .slice ra2 rn2 rc2] 46) = w3 at *
    have hs1 := lt_of_heap hC1
    have hs2 := lt_of_heap hC2
    have hs3 := lt_of_heap hC3
    obtain ⟨a0, a1, a2, p0, p1, p2⟩ := cells3 hC1
    obtain ⟨b0, b1, b2, q0, q1, q2⟩ := cells3 hC2
    obtain ⟨c0, c1, -⟩ := cells2 hC3
    have HUX := Lib.hid hux
    clear hux
    go_upto_region 3 with (fail)
    have hD1 := hset3_1 (v := .slice ra2 rn2 rc2) (hset3_0 (v := .slice fa2 9 fc2) hC1)
    have hD2 := heap_setCell_ne (c := A) (heap_setCell_ne (c := A) hC2 (by omega) 0 (.slice fa2 9 fc2)) (by omega) 1 (.slice ra2 rn2 rc2)
    have hu4 : Upd [A] w2 ((w3.setCell ⟨A, 0, none⟩ (.slice fa2 9 fc2)).setCell ⟨A, 1, none⟩ (.slice ra2 rn2 rc2)) := (((HUX.out.mono (S' := [A]) (by simp)).setCell (p := ⟨A, 0, none⟩) (by simp) _).setCell (p := ⟨A, 1, none⟩) (by simp) _)
    clear hC1 hC2 hC3 hs1 hs2 hs3 a0 a1 a2 p0 p1 p2 b0 b1 b2 q0 q1 q2 c0 c1 HUX
    generalize (w3.setCell ⟨A, 0, none⟩ (.slice fa2 9 fc2)).setCell ⟨A, 1, none⟩ (.slice ra2 rn2 rc2) = w4 at *
    have HR4 := Lib.hid (HR2.out.upd hu4 (fun x hx => by have := List.mem_singleton.1 hx; subst this; exact HGA.out.1))
    have HX4 := Lib.hid (HX2.out.upd hu4 (fun x hx => by have := List.mem_singleton.1 hx; subst this; exact HGA.out.1))
    have HU4 := Lib.hid (HU2.out.trans hu4 (fun x hx => .inr (by have := List.mem_singleton.1 hx; omega)))
    have HUK := Lib.hid hu4
    clear HR2 HX2 HU2 hu4
    have hs1 := lt_of_heap hD1
    have hs2 := lt_of_heap hD2
    obtain ⟨a0, a1, a2, p0, p1, p2⟩ := cells3 hD1
    obtain ⟨b0, b1, b2, q0, q1, q2⟩ := cells3 hD2
    have hD3 := HUK.out.keep (HU12.out.keep0 HAA.out.2) (by simp; omega)
    have hs3 := lt_of_heap hD3
    obtain ⟨c0, c1, c2, c3, c4, z0, z1, z2, z3, z4⟩ := cells5 hD3
    go_wp2_with (fail)
    have hE2 := heap_setCell_ne (c := A + 1 + 1) (heap_setCell_ne (c := A + 1 + 1) (heap_setCell_ne (c := A + 1 + 1) (heap_setCell_ne (c := A + 1 + 1) (heap_setCell_ne (c := A + 1 + 1) (hset3_2 (v := .slice xa 9 xc) (hset3_1 (v := .slice ra2 rn2 rc2) (hset3_0 (v := .slice fa2 9 fc2) hD2))) (by omega) 0 (i64 0)) (by omega) 1 (i64 0)) (by omega) 2 (i64 0)) (by omega) 3 (.string ⟨#[]⟩)) (by omega) 4 (i64 0)
    have hE3 := hset5_4 (v := i64 0) (hset5_3 (v := .string ⟨#[]⟩) (hset5_2 (v := i64 0) (hset5_1 (v := i64 0) (hset5_0 (v := i64 0) (heap_setCell_ne (c := A + 1) (heap_setCell_ne (c := A + 1) (heap_setCell_ne (c := A + 1) hD3 (by omega) 0 (.slice fa2 9 fc2)) (by omega) 1 (.slice ra2 rn2 rc2)) (by omega) 2 (.slice xa 9 xc))))))
    have hu8 : Upd [A + 1, A + 1 + 1] w4 _ := ((((((((Upd.refl _ _).setCell (p := ⟨A + 1, 0, none⟩) (by simp) (.slice fa2 9 fc2)).setCell (p := ⟨A + 1, 1, none⟩) (by simp) (.slice ra2 rn2 rc2)).setCell (p := ⟨A + 1, 2, none⟩) (by simp) (.slice xa 9 xc)).setCell (p := ⟨A + 1 + 1, 0, none⟩) (by simp) (i64 0)).setCell (p := ⟨A + 1 + 1, 1, none⟩) (by simp) (i64 0)).setCell (p := ⟨A + 1 + 1, 2, none⟩) (by simp) (i64 0)).setCell (p := ⟨A + 1 + 1, 3, none⟩) (by simp) (.string ⟨#[]⟩)).setCell (p := ⟨A + 1 + 1, 4, none⟩) (by simp) (i64 0)
    clear a0 a1 a2 p0 p1 p2 b0 b1 b2 q0 q1 q2 c0 c1 c2 c3 c4 z0 z1 z2 z3 z4 hD1 hD2 hD3
    generalize ((((((((w4.setCell ⟨A + 1, 0, none⟩ (.slice fa2 9 fc2)).setCell ⟨A + 1, 1, none⟩ (.slice ra2 rn2 rc2)).setCell ⟨A + 1, 2, none⟩ (.slice xa 9 xc)).setCell ⟨A + 1 + 1, 0, none⟩ (i64 0)).setCell ⟨A + 1 + 1, 1, none⟩ (i64 0)).setCell ⟨A + 1 + 1, 2, none⟩ (i64 0)).setCell ⟨A + 1 + 1, 3, none⟩ (.string ⟨#[]⟩)).setCell ⟨A + 1 + 1, 4, none⟩ (i64 0)) = w8 at *
    obtain ⟨k0, k1, k2, -⟩ := cells3 hE2
    obtain ⟨l0, l1, l2, l3, l4, -⟩ := cells5 hE3
    refine bodyPost_ret (v := .tuple #[.agg #[.slice fa2 9 fc2, .slice ra2 rn2 rc2, .slice xa 9 xc], i64 0, .agg #[i64 0, i64 0, i64 0, .string ⟨#[]⟩, i64 0], .bool false]) (by simp [results, Try.results44, go_sem, *]) rfl ?_
    refine hR.out _ _ ?_
    refine ⟨_, _, _, by rw [HN0.out, HXX.out, ht]; rfl, ⟨(HR4.out.upd hu8 HGA.out.2.1).more HGA.out.2.2, ?_⟩, HU4.out.trans hu8 (fun x hx => .inr (by simp at hx; omega))⟩
    rw [HII.out]
    exact (HX4.out.upd hu8 HGA.out.2.1).more HGA.out.2.2
  | true =>
    obtain ⟨m, x, l, htn, hm, hil, -, hlk2⟩ := turn_link HLK.out HOK.out ht
    have HXX := Lib.hid (show nextX r its = x from by unfold nextX; rw [if_pos ht, htn]; show ((its m)[0]?).getD _ = _; rw [hil]; rfl)
    have HII := Lib.hid (show nextI r its = updN its m l from by unfold nextI; rw [if_pos ht, htn]; show updN its m (its m).tail = _; rw [hil]; rfl)
    have HN := Lib.hid htn
    have hm9 : (m : Int) < 9 := by omega
    have hlm := HLEN.out m hm
    rw [hil] at hlm
    simp only [List.length_cons] at hlm
    obtain ⟨tv, ht1, ht2, ht3⟩ := HX.out
    obtain ⟨hrow, hrowY⟩ := ht3 m hm
    rw [hil] at hrow
    obtain ⟨la, lc, hv, hlc, hlx⟩ := hrow.form
    obtain ⟨g2, off2, rfl, -, hg2, -⟩ := hlx (by simp)
    obtain ⟨xa', xc2, hxv, -, hxx⟩ := ht1.form
    obtain ⟨g, off, rfl, -, hg, hcx⟩ := hxx (by omega)
    injection hxv with hxv _ hxv2
    subst hxv; subst hxv2
    have hc0 := hcx m _ (tvl_get tv hm)
    rw [hv] at hc0 hrow hrowY
    simp only [List.length_cons] at hc0 hrow hlc
    have HROW := Lib.hid hrow
    have HC0 := Lib.hid hc0
    have HROWY := Lib.hid hrowY
    rw [ht, htn] at HTS
    clear htn ht1 ht2 ht3 hrow hv hlx hxx hcx hc0 hrowY hlk2 hil
    go_wp2_with (fail)
    refine HTS.out.mono ?_
    rintro e w2 ⟨fv2, rv2, rfl, hR2, hu2⟩
    obtain ⟨xa, hxa⟩ : ∃ xa, xa = some (⟨g, off, none⟩ : Addr) := ⟨_, rfl⟩
    rw [← hxa] at a2 HX HAA0 ⊢
    have hA1 := HAA0.out
    have hA2 := HAA.out.1
    have hs2 := 0
    have b0 := 0
    have b1 := 0
    have b2 := 0
    have q0 := 0
    have q1 := 0
    have q2 := 0
    obtain ⟨fa2, fc2, ra2, rn2, rc2, rfl, rfl⟩ := hR2.shape2
    have hB1 := hu2.keep0 hA1
    have hB2 := hu2.keep0 hA2
    have HR2 := Lib.hid hR2
    have HU2 := Lib.hid (HU0.out.trans' hu2)
    have HU12 := Lib.hid hu2
    have HX2 := Lib.hid (((HX.out.upd0 HU0.out).upd0 hu2).more (fun x q => .inl q) : Rw40 w2 (grow (cutZ Y w) w1) (.slice xa 9 xc) its)
    have hw12 := hu2.size
    clear hA1 hA2 hs1 hs2 a0 a1 a2 p0 p1 p2 b0 b1 b2 q0 q1 q2 hR2 hu2
    have hs1 := lt_of_heap hB1
    have hs2 := lt_of_heap hB2
    obtain ⟨a0, a1, a2, p0, p1, p2⟩ := cells3 hB1
    obtain ⟨b0, b1, b2, q0, q1, q2⟩ := cells3 hB2
    go_upto_region 2 with (fail)
    obtain ⟨X, hX⟩ : ∃ X, X = w2.heap.size := ⟨_, rfl⟩
    have hC1 := heap_alloc_old hB1 (.cells #[.slice fa2 9 fc2, .slice ra2 rn2 rc2] 46)
    have hC2 := heap_alloc_old hB2 (.cells #[.slice fa2 9 fc2, .slice ra2 rn2 rc2] 46)
    have hC3 := heap_alloc_new w2 (.cells #[.slice fa2 9 fc2, .slice ra2 rn2 rc2] 46)
    have hux := (Upd.refl [] w2).alloc (.cells #[.slice fa2 9 fc2, .slice ra2 rn2 rc2] 46)
    have hAX : A + 1 < X := by omega
    rw [← hX] at hC3 ⊢
    clear hX hB1 hB2 hs1 hs2 a0 a1 a2 p0 p1 p2 b0 b1 b2 q0 q1 q2
    generalize w2.alloc (.cells #[.slice fa2 9 fc2, .slice ra2 rn2 rc2] 46) = w3 at *
    have hs1 := lt_of_heap hC1
    have hs2 := lt_of_heap hC2
    have hs3 := lt_of_heap hC3
    obtain ⟨a0, a1, a2, p0, p1, p2⟩ := cells3 hC1
    obtain ⟨b0, b1, b2, q0, q1, q2⟩ := cells3 hC2
    obtain ⟨c0, c1, -⟩ := cells2 hC3
    have HUX := Lib.hid hux
    clear hux
    go_upto_region 3 with (fail)
    have hD1 := hset3_1 (v := .slice ra2 rn2 rc2) (hset3_0 (v := .slice fa2 9 fc2) hC1)
    have hD2 := heap_setCell_ne (c := A) (heap_setCell_ne (c := A) hC2 (by omega) 0 (.slice fa2 9 fc2)) (by omega) 1 (.slice ra2 rn2 rc2)
    have hu4 : Upd [A] w2 ((w3.setCell ⟨A, 0, none⟩ (.slice fa2 9 fc2)).setCell ⟨A, 1, none⟩ (.slice ra2 rn2 rc2)) := (((HUX.out.mono (S' := [A]) (by simp)).setCell (p := ⟨A, 0, none⟩) (by simp) _).setCell (p := ⟨A, 1, none⟩) (by simp) _)
    clear hC1 hC2 hC3 hs1 hs2 hs3 a0 a1 a2 p0 p1 p2 b0 b1 b2 q0 q1 q2 c0 c1 HUX
    generalize (w3.setCell ⟨A, 0, none⟩ (.slice fa2 9 fc2)).setCell ⟨A, 1, none⟩ (.slice ra2 rn2 rc2) = w4 at *
    have HR4 := Lib.hid (HR2.out.upd hu4 (fun x hx => by have := List.mem_singleton.1 hx; subst this; exact HGA.out.1))
    have HX4 := Lib.hid (HX2.out.upd hu4 (fun x hx => by have := List.mem_singleton.1 hx; subst this; exact HGA.out.1))
    have HU4 := Lib.hid (HU2.out.trans hu4 (fun x hx => .inr (by have := List.mem_singleton.1 hx; omega)))
    have HUK := Lib.hid hu4
    clear HR2 HX2 HU2 hu4
    have hs1 := lt_of_heap hD1
    have hs2 := lt_of_heap hD2
    obtain ⟨a0, a1, a2, p0, p1, p2⟩ := cells3 hD1
    obtain ⟨b0, b1, b2, q0, q1, q2⟩ := cells3 hD2
    have hD3 := HUK.out.keep (HU12.out.keep0 HAA.out.2) (by simp; omega)
    have hs3 := lt_of_heap hD3
    obtain ⟨c0, c1, c2, c3, c4, z0, z1, z2, z3, z4⟩ := cells5 hD3
    rw [hxa] at a2 HX4 hD1
    subst hxa
    have hc4 := (HU4.out.below.cell (p := ⟨g, off + m, none⟩) hg).trans HC0.out
    have hw04 := HU4.out.size
    have hrow4 := HROW.out.upd0 HU4.out
    obtain ⟨d0, d1, d2, d3, d4⟩ := its_get (l := x :: l) hrow4 (k := 0) (by simp) (by simp)
    simp only [Nat.zero_mul, Nat.add_zero, List.getElem_cons_zero] at d0 d1 d2 d3 d4
    go_upto_region 6 with (fail)
    obtain ⟨X2, hX2⟩ : ∃ X2, X2 = w4.heap.size := ⟨_, rfl⟩
    have hD4 := heap_alloc_new w4 (.cells #[i64 x.c, i64 x.k, i64 x.f, .string x.b, i64 x.a] 68)
    have hE1 := heap_alloc_old hD1 (.cells #[i64 x.c, i64 x.k, i64 x.f, .string x.b, i64 x.a] 68)
    have hE2 := heap_alloc_old hD2 (.cells #[i64 x.c, i64 x.k, i64 x.f, .string x.b, i64 x.a] 68)
    have hE3 := heap_alloc_old hD3 (.cells #[i64 x.c, i64 x.k, i64 x.f, .string x.b, i64 x.a] 68)
    have hux := (Upd.refl [] w4).alloc (.cells #[i64 x.c, i64 x.k, i64 x.f, .string x.b, i64 x.a] 68)
    have hgX : g < X2 := by omega
    have hAX2 : A + 1 + 1 < X2 := by omega
    rw [← hX2] at hD4 ⊢
    clear hD1 hD2 hD3 a0 a1 a2 p0 p1 p2 b0 b1 b2 q0 q1 q2 c0 c1 c2 c3 c4 z0 z1 z2 z3 z4 hs1 hs2 hs3 d0 d1 d2 d3 d4 hX2
    generalize w4.alloc (.cells #[i64 x.c, i64 x.k, i64 x.f, .string x.b, i64 x.a] 68) = w5 at *
    have hc5 := (hux.below.cell (p := ⟨g, off + m, none⟩) (by show g < _; omega)).trans hc4
    have hw45 := hux.size
    have hg5 : g < w5.heap.size := by omega
    have hkeep : ∀ w', Upd [A + 1, A + 1 + 1] w5 w' → w'.cell? ⟨A, 0, none⟩ = some (.slice fa2 9 fc2) ∧ w'.cell? ⟨A, 1, none⟩ = some (.slice ra2 rn2 rc2) ∧ w'.cell? ⟨A, 2, none⟩ = some (.slice (some ⟨g, off, none⟩) 9 xc) ∧ w'.cell? ⟨g, off + m, none⟩ = some (.slice (some ⟨g2, off2, none⟩) (l.length + 1) lc) ∧
        w'.cell? ⟨X2, 0, none⟩ = some (i64 x.c) ∧ w'.cell? ⟨X2, 1, none⟩ = some (i64 x.k) ∧ w'.cell? ⟨X2, 2, none⟩ = some (i64 x.f) ∧ w'.cell? ⟨X2, 3, none⟩ = some (.string x.b) ∧ w'.cell? ⟨X2, 4, none⟩ = some (i64 x.a) := fun w' hu => by
      obtain ⟨k0, k1, k2, -⟩ := cells3 (hu.keep hE1 (by simp; omega))
      obtain ⟨e0, e1, e2, e3, e4, -⟩ := cells5 (hu.keep hD4 (by simp; omega))
      exact ⟨k0, k1, k2, (World.cell?_of_block (a := ⟨g, off + m, none⟩) (hu.block g hg5 (by simp; omega))).trans hc5, e0, e1, e2, e3, e4⟩
    have HKEEP := Lib.hid hkeep
    have HU45 := Lib.hid hux
    have hwi : ∀ w' (la2 : Option Addr) (lc2 : Nat), Upd [] w5 w' → Sub w' w5.heap.size 68 5 (.slice la2 l.length lc2) l.length (ics l) → Calls Try.prog 64 #[.agg #[.slice fa2 9 fc2, .slice ra2 rn2 rc2, .slice (some ⟨g, off, none⟩) 9 xc], i64 m, .slice la2 l.length lc2] w' fun e w'' =>
        ∃ xa3 xc3, e = .returned (.agg #[.slice fa2 9 fc2, .slice ra2 rn2 rc2, .slice xa3 9 xc3]) ∧ Rw40 w'' (grow (grow (cutZ Y w) w1) w5) (.slice xa3 9 xc3) (updN its m l) ∧ Upd [] w5 w'' := fun w' la2 lc2 hu hs => by
      have hsz := hu.size
      have hX' : Rw40 w' (grow (grow (cutZ Y w) w1) w5) (.slice (some ⟨g, off, none⟩) 9 xc) its := (HX4.out.upd0 (HU45.out.trans' hu)).more (fun x q => .inl q)
      refine (r4withR_c hX' m hm (l := l) (hs.mono (Nat.zero_le _)) (fun y hy => .inr (hs.lt y hy).1) fa2 ra2 9 fc2 rn2 rc2).mono ?_
      rintro e w'' ⟨xa3, xc3, rfl, h1, h2⟩
      exact ⟨_, _, rfl, h1.more (fun y q => q.elim id (fun q => .inr (by omega))), hu.trans' h2⟩
    have HWI := Lib.hid hwi
    have HD2 := Lib.hid hE2
    have HD3 := Lib.hid hE3
    have HLK9 := Lib.hid (show l.length ≤ 900 from by omega)
    have hrow5 := hrow4.upd0 hux
    have hs5 := lt_of_heap hD4
    have hs2 := lt_of_heap hE1
    obtain ⟨a0, a1, a2, -⟩ := cells3 hE1
    obtain ⟨e0, e1, e2, e3, e4, -⟩ := cells5 hD4
    clear hkeep hwi hux hE1 hE2 hE3 hD4 hc4 hrow4 HROW HC0 HROWY
    by_cases hcc : lc = 1
    · subst hcc
      have hl0 : l = [] := List.eq_nil_of_length_eq_zero (by omega)
      have hsv : Sub w5 0 68 5 (.slice (some ⟨g2, off2, none⟩) l.length 0) l.length (ics l) := by
        have := sub_none5 hrow5
        rw [hl0]; exact this
      have hsl := fun wx => run_tail40_0 (g := g2) (off := off2) (show l.length = 0 from by rw [hl0]; rfl) wx
      clear hrow5 hl0
      have HSV := Lib.hid hsv
      have HLC := Lib.hid hlc
      have HLM := Lib.hid hlm
      clear hsv hlc hlm
      generalize hL : l.length = L at *
      have HL := Lib.hid hL
      clear hL
      go_wp2_with (fail)
      go_region_held3 (fun w' => w'.cell? ⟨A, 0, none⟩ = some (.slice fa2 9 fc2) ∧ w'.cell? ⟨A, 1, none⟩ = some (.slice ra2 rn2 rc2) ∧ w'.cell? ⟨A, 2, none⟩ = some (.slice (some ⟨g, off, none⟩) 9 xc) ∧ w'.cell? ⟨g, off + m, none⟩ = some (.slice (some ⟨g2, off2, none⟩) (L + 1) 1) ∧
          w'.cell? ⟨X2, 0, none⟩ = some (i64 x.c) ∧ w'.cell? ⟨X2, 1, none⟩ = some (i64 x.k) ∧ w'.cell? ⟨X2, 2, none⟩ = some (i64 x.f) ∧ w'.cell? ⟨X2, 3, none⟩ = some (.string x.b) ∧ w'.cell? ⟨X2, 4, none⟩ = some (i64 x.a))
        (exact HKEEP.out _ (by (repeat' (first | (with_reducible exact Upd.refl _ _) | (with_reducible exact hu7.mono (by simp)) | (with_reducible exact HU6.out.mono (by simp)) | (with_reducible exact HU5.out.mono (by simp)) | (with_reducible apply Upd.drew) | (with_reducible apply Upd.alloc) | (with_reducible refine Upd.setCell ?_ (.inl (by simp)) _)))))
        ((first
          | (with_reducible refine step_ap1 (w4 := w5) _ _ (by with_unfolding_all rfl) (by with_unfolding_all rfl) (by with_unfolding_all rfl) (by with_unfolding_all rfl) (by with_unfolding_all rfl) HSV.out HLK9.out (by (repeat' (first | (with_reducible exact Upd.refl _ _) | (with_reducible exact hu7) | (with_reducible exact HU6.out) | (with_reducible exact HU5.out) | (with_reducible apply Upd.drew) | (with_reducible apply Upd.alloc) | (with_reducible refine Upd.setCell ?_ (.inr (by simp; omega)) _) | (with_reducible refine Upd.setCell ?_ (.inr (by simp)) _)))) (by first | exact Nat.le_refl _ | exact Nat.le_succ _) (by (first | (with_reducible exact heap_drew (heap_alloc_new _ _)) | (with_reducible exact heap_drew (heap_alloc_old (heap_alloc_new _ _) _)) | (with_reducible exact heap_drew (heap_new2 _ _ _)) | (with_reducible exact heap_alloc_new _ _) | (with_reducible exact heap_alloc_old (heap_drew (heap_alloc_new _ _)) _))) ?_; intro ao6 cap6 w6 hs6 hu6 hk6; have HS6 := Lib.hid hs6; have HU6 := Lib.hid hu6; clear hs6 hu6 hk6)
          | (go_at_call 64; (with_reducible refine Calls.mono (HWI.out _ _ _ HU6.out HS6.out) ?_); rintro e w7 ⟨xa3, xc3, rfl, hX7, hu7⟩; have HX7 := Lib.hid hX7; have hE1 := hu7.keep0 HD2.out; have hE3 := hu7.keep0 HD3.out; have hsE1 := lt_of_heap hE1; have hsE3 := lt_of_heap hE3; obtain ⟨b0, b1, b2, q0, q1, q2⟩ := cells3 hE1; obtain ⟨c0, c1, c2, c3, c4, z0, z1, z2, z3, z4⟩ := cells5 hE3)))
      all_goals (rename_i hHeld; clear hHeld)
      all_goals first
        | (have hE2 := heap_setCell_ne (c := A + 1 + 1) (heap_setCell_ne (c := A + 1 + 1) (heap_setCell_ne (c := A + 1 + 1) (heap_setCell_ne (c := A + 1 + 1) (heap_setCell_ne (c := A + 1 + 1) (hset3_2 (v := .slice xa3 9 xc3) (hset3_1 (v := .slice ra2 rn2 rc2) (hset3_0 (v := .slice fa2 9 fc2) hE1))) (by omega) 0 (i64 x.c)) (by omega) 1 (i64 x.k)) (by omega) 2 (i64 x.f)) (by omega) 3 (.string x.b)) (by omega) 4 (i64 x.a)
           have hE4 := hset5_4 (v := i64 x.a) (hset5_3 (v := .string x.b) (hset5_2 (v := i64 x.f) (hset5_1 (v := i64 x.k) (hset5_0 (v := i64 x.c) (heap_setCell_ne (c := A + 1) (heap_setCell_ne (c := A + 1) (heap_setCell_ne (c := A + 1) hE3 (by omega) 0 (.slice fa2 9 fc2)) (by omega) 1 (.slice ra2 rn2 rc2)) (by omega) 2 (.slice xa3 9 xc3))))))
           have hu8 : Upd [A + 1, A + 1 + 1] w7 _ := ((((((((Upd.refl _ _).setCell (p := ⟨A + 1, 0, none⟩) (by simp) (.slice fa2 9 fc2)).setCell (p := ⟨A + 1, 1, none⟩) (by simp) (.slice ra2 rn2 rc2)).setCell (p := ⟨A + 1, 2, none⟩) (by simp) (.slice xa3 9 xc3)).setCell (p := ⟨A + 1 + 1, 0, none⟩) (by simp) (i64 x.c)).setCell (p := ⟨A + 1 + 1, 1, none⟩) (by simp) (i64 x.k)).setCell (p := ⟨A + 1 + 1, 2, none⟩) (by simp) (i64 x.f)).setCell (p := ⟨A + 1 + 1, 3, none⟩) (by simp) (.string x.b)).setCell (p := ⟨A + 1 + 1, 4, none⟩) (by simp) (i64 x.a)
           clear b0 b1 b2 q0 q1 q2 c0 c1 c2 c3 c4 z0 z1 z2 z3 z4 hE1 hE3 hX7 HU6 HS6 HWI HKEEP
           generalize World.setCell _ _ _ = w8 at hE2 hE4 hu8 ⊢)
        | (have hE2 := hset3_2 (v := .slice xa3 9 xc3) (hset3_1 (v := .slice ra2 rn2 rc2) (hset3_0 (v := .slice fa2 9 fc2) (heap_setCell_ne (c := A + 1 + 1) (heap_setCell_ne (c := A + 1 + 1) (heap_setCell_ne (c := A + 1 + 1) (heap_setCell_ne (c := A + 1 + 1) (heap_setCell_ne (c := A + 1 + 1) hE1 (by omega) 0 (i64 x.c)) (by omega) 1 (i64 x.k)) (by omega) 2 (i64 x.f)) (by omega) 3 (.string x.b)) (by omega) 4 (i64 x.a))))
           have hE4 := heap_setCell_ne (c := A + 1) (heap_setCell_ne (c := A + 1) (heap_setCell_ne (c := A + 1) (hset5_4 (v := i64 x.a) (hset5_3 (v := .string x.b) (hset5_2 (v := i64 x.f) (hset5_1 (v := i64 x.k) (hset5_0 (v := i64 x.c) hE3))))) (by omega) 0 (.slice fa2 9 fc2)) (by omega) 1 (.slice ra2 rn2 rc2)) (by omega) 2 (.slice xa3 9 xc3)
           have hu8 : Upd [A + 1, A + 1 + 1] w7 _ := ((((((((Upd.refl _ _).setCell (p := ⟨A + 1 + 1, 0, none⟩) (by simp) (i64 x.c)).setCell (p := ⟨A + 1 + 1, 1, none⟩) (by simp) (i64 x.k)).setCell (p := ⟨A + 1 + 1, 2, none⟩) (by simp) (i64 x.f)).setCell (p := ⟨A + 1 + 1, 3, none⟩) (by simp) (.string x.b)).setCell (p := ⟨A + 1 + 1, 4, none⟩) (by simp) (i64 x.a)).setCell (p := ⟨A + 1, 0, none⟩) (by simp) (.slice fa2 9 fc2)).setCell (p := ⟨A + 1, 1, none⟩) (by simp) (.slice ra2 rn2 rc2)).setCell (p := ⟨A + 1, 2, none⟩) (by simp) (.slice xa3 9 xc3)
           clear b0 b1 b2 q0 q1 q2 c0 c1 c2 c3 c4 z0 z1 z2 z3 z4 hE1 hE3 hX7 HU6 HS6 HWI HKEEP
           generalize World.setCell _ _ _ = w8 at hE2 hE4 hu8 ⊢)
      all_goals (
        obtain ⟨k0, k1, k2, -⟩ := cells3 hE2
        obtain ⟨l0, l1, l2, l3, l4, -⟩ := cells5 hE4
        go_wp2_with (fail)
        refine bodyPost_ret (v := .tuple #[.agg #[.slice fa2 9 fc2, .slice ra2 rn2 rc2, .slice xa3 9 xc3], i64 m, .agg #[i64 x.c, i64 x.k, i64 x.f, .string x.b, i64 x.a], .bool true]) (by simp [results, Try.results44, go_sem, *]) rfl ?_
        refine hR.out _ _ ?_
        have hw57 := hu7.size
        refine ⟨_, _, _, by rw [HN.out, HXX.out, ht], ⟨(((HR4.out.upd0 HU45.out).upd0 hu7).upd hu8 HGA.out.2.1).more HGA.out.2.2, ?_⟩, ((HU4.out.trans' HU45.out).trans' hu7).trans hu8 (fun x hx => .inr (by simp at hx; omega))⟩
        rw [HII.out]
        refine (HX7.out.upd hu8 (fun y hy q => q.elim (HGA.out.2.1 y hy) (fun q => by simp at hy; omega))).more (fun y q => q.elim (HGA.out.2.2 y) (fun q => .inr (by have := HU4.out.size; have := HU45.out.size; omega))))
    · have hsv : Sub w5 0 68 5 (.slice (some ⟨g2, off2 + 5, none⟩) l.length (lc - 1)) l.length (ics l) := sub_tail5 hrow5
      have hsl := fun wx => run_tail40 (g := g2) (off := off2) hlc hcc wx
      clear hrow5
      have HSV := Lib.hid hsv
      have HLC := Lib.hid hlc
      have HLM := Lib.hid hlm
      clear hsv hlc hlm
      generalize hL : l.length = L at *
      have HL := Lib.hid hL
      clear hL
      go_wp2_with (fail)
      go_region_held3 (fun w' => w'.cell? ⟨A, 0, none⟩ = some (.slice fa2 9 fc2) ∧ w'.cell? ⟨A, 1, none⟩ = some (.slice ra2 rn2 rc2) ∧ w'.cell? ⟨A, 2, none⟩ = some (.slice (some ⟨g, off, none⟩) 9 xc) ∧ w'.cell? ⟨g, off + m, none⟩ = some (.slice (some ⟨g2, off2, none⟩) (L + 1) lc) ∧
          w'.cell? ⟨X2, 0, none⟩ = some (i64 x.c) ∧ w'.cell? ⟨X2, 1, none⟩ = some (i64 x.k) ∧ w'.cell? ⟨X2, 2, none⟩ = some (i64 x.f) ∧ w'.cell? ⟨X2, 3, none⟩ = some (.string x.b) ∧ w'.cell? ⟨X2, 4, none⟩ = some (i64 x.a))
        (exact HKEEP.out _ (by (repeat' (first | (with_reducible exact Upd.refl _ _) | (with_reducible exact hu7.mono (by simp)) | (with_reducible exact HU6.out.mono (by simp)) | (with_reducible exact HU5.out.mono (by simp)) | (with_reducible apply Upd.drew) | (with_reducible apply Upd.alloc) | (with_reducible refine Upd.setCell ?_ (.inl (by simp)) _)))))
        ((first
          | (with_reducible refine step_ap1 (w4 := w5) _ _ (by with_unfolding_all rfl) (by with_unfolding_all rfl) (by with_unfolding_all rfl) (by with_unfolding_all rfl) (by with_unfolding_all rfl) HSV.out HLK9.out (by (repeat' (first | (with_reducible exact Upd.refl _ _) | (with_reducible exact hu7) | (with_reducible exact HU6.out) | (with_reducible exact HU5.out) | (with_reducible apply Upd.drew) | (with_reducible apply Upd.alloc) | (with_reducible refine Upd.setCell ?_ (.inr (by simp; omega)) _) | (with_reducible refine Upd.setCell ?_ (.inr (by simp)) _)))) (by first | exact Nat.le_refl _ | exact Nat.le_succ _) (by (first | (with_reducible exact heap_drew (heap_alloc_new _ _)) | (with_reducible exact heap_drew (heap_alloc_old (heap_alloc_new _ _) _)) | (with_reducible exact heap_drew (heap_new2 _ _ _)) | (with_reducible exact heap_alloc_new _ _) | (with_reducible exact heap_alloc_old (heap_drew (heap_alloc_new _ _)) _))) ?_; intro ao6 cap6 w6 hs6 hu6 hk6; have HS6 := Lib.hid hs6; have HU6 := Lib.hid hu6; clear hs6 hu6 hk6)
          | (go_at_call 64; (with_reducible refine Calls.mono (HWI.out _ _ _ HU6.out HS6.out) ?_); rintro e w7 ⟨xa3, xc3, rfl, hX7, hu7⟩; have HX7 := Lib.hid hX7; have hE1 := hu7.keep0 HD2.out; have hE3 := hu7.keep0 HD3.out; have hsE1 := lt_of_heap hE1; have hsE3 := lt_of_heap hE3; obtain ⟨b0, b1, b2, q0, q1, q2⟩ := cells3 hE1; obtain ⟨c0, c1, c2, c3, c4, z0, z1, z2, z3, z4⟩ := cells5 hE3)))
      all_goals (rename_i hHeld; clear hHeld)
      all_goals first
        | (have hE2 := heap_setCell_ne (c := A + 1 + 1) (heap_setCell_ne (c := A + 1 + 1) (heap_setCell_ne (c := A + 1 + 1) (heap_setCell_ne (c := A + 1 + 1) (heap_setCell_ne (c := A + 1 + 1) (hset3_2 (v := .slice xa3 9 xc3) (hset3_1 (v := .slice ra2 rn2 rc2) (hset3_0 (v := .slice fa2 9 fc2) hE1))) (by omega) 0 (i64 x.c)) (by omega) 1 (i64 x.k)) (by omega) 2 (i64 x.f)) (by omega) 3 (.string x.b)) (by omega) 4 (i64 x.a)
           have hE4 := hset5_4 (v := i64 x.a) (hset5_3 (v := .string x.b) (hset5_2 (v := i64 x.f) (hset5_1 (v := i64 x.k) (hset5_0 (v := i64 x.c) (heap_setCell_ne (c := A + 1) (heap_setCell_ne (c := A + 1) (heap_setCell_ne (c := A + 1) hE3 (by omega) 0 (.slice fa2 9 fc2)) (by omega) 1 (.slice ra2 rn2 rc2)) (by omega) 2 (.slice xa3 9 xc3))))))
           have hu8 : Upd [A + 1, A + 1 + 1] w7 _ := ((((((((Upd.refl _ _).setCell (p := ⟨A + 1, 0, none⟩) (by simp) (.slice fa2 9 fc2)).setCell (p := ⟨A + 1, 1, none⟩) (by simp) (.slice ra2 rn2 rc2)).setCell (p := ⟨A + 1, 2, none⟩) (by simp) (.slice xa3 9 xc3)).setCell (p := ⟨A + 1 + 1, 0, none⟩) (by simp) (i64 x.c)).setCell (p := ⟨A + 1 + 1, 1, none⟩) (by simp) (i64 x.k)).setCell (p := ⟨A + 1 + 1, 2, none⟩) (by simp) (i64 x.f)).setCell (p := ⟨A + 1 + 1, 3, none⟩) (by simp) (.string x.b)).setCell (p := ⟨A + 1 + 1, 4, none⟩) (by simp) (i64 x.a)
           clear b0 b1 b2 q0 q1 q2 c0 c1 c2 c3 c4 z0 z1 z2 z3 z4 hE1 hE3 hX7 HU6 HS6 HWI HKEEP
           generalize World.setCell _ _ _ = w8 at hE2 hE4 hu8 ⊢)
        | (have hE2 := hset3_2 (v := .slice xa3 9 xc3) (hset3_1 (v := .slice ra2 rn2 rc2) (hset3_0 (v := .slice fa2 9 fc2) (heap_setCell_ne (c := A + 1 + 1) (heap_setCell_ne (c := A + 1 + 1) (heap_setCell_ne (c := A + 1 + 1) (heap_setCell_ne (c := A + 1 + 1) (heap_setCell_ne (c := A + 1 + 1) hE1 (by omega) 0 (i64 x.c)) (by omega) 1 (i64 x.k)) (by omega) 2 (i64 x.f)) (by omega) 3 (.string x.b)) (by omega) 4 (i64 x.a))))
           have hE4 := heap_setCell_ne (c := A + 1) (heap_setCell_ne (c := A + 1) (heap_setCell_ne (c := A + 1) (hset5_4 (v := i64 x.a) (hset5_3 (v := .string x.b) (hset5_2 (v := i64 x.f) (hset5_1 (v := i64 x.k) (hset5_0 (v := i64 x.c) hE3))))) (by omega) 0 (.slice fa2 9 fc2)) (by omega) 1 (.slice ra2 rn2 rc2)) (by omega) 2 (.slice xa3 9 xc3)
           have hu8 : Upd [A + 1, A + 1 + 1] w7 _ := ((((((((Upd.refl _ _).setCell (p := ⟨A + 1 + 1, 0, none⟩) (by simp) (i64 x.c)).setCell (p := ⟨A + 1 + 1, 1, none⟩) (by simp) (i64 x.k)).setCell (p := ⟨A + 1 + 1, 2, none⟩) (by simp) (i64 x.f)).setCell (p := ⟨A + 1 + 1, 3, none⟩) (by simp) (.string x.b)).setCell (p := ⟨A + 1 + 1, 4, none⟩) (by simp) (i64 x.a)).setCell (p := ⟨A + 1, 0, none⟩) (by simp) (.slice fa2 9 fc2)).setCell (p := ⟨A + 1, 1, none⟩) (by simp) (.slice ra2 rn2 rc2)).setCell (p := ⟨A + 1, 2, none⟩) (by simp) (.slice xa3 9 xc3)
           clear b0 b1 b2 q0 q1 q2 c0 c1 c2 c3 c4 z0 z1 z2 z3 z4 hE1 hE3 hX7 HU6 HS6 HWI HKEEP
           generalize World.setCell _ _ _ = w8 at hE2 hE4 hu8 ⊢)
      all_goals (
        obtain ⟨k0, k1, k2, -⟩ := cells3 hE2
        obtain ⟨l0, l1, l2, l3, l4, -⟩ := cells5 hE4
        go_wp2_with (fail)
        refine bodyPost_ret (v := .tuple #[.agg #[.slice fa2 9 fc2, .slice ra2 rn2 rc2, .slice xa3 9 xc3], i64 m, .agg #[i64 x.c, i64 x.k, i64 x.f, .string x.b, i64 x.a], .bool true]) (by simp [results, Try.results44, go_sem, *]) rfl ?_
        refine hR.out _ _ ?_
        have hw57 := hu7.size
        refine ⟨_, _, _, by rw [HN.out, HXX.out, ht], ⟨(((HR4.out.upd0 HU45.out).upd0 hu7).upd hu8 HGA.out.2.1).more HGA.out.2.2, ?_⟩, ((HU4.out.trans' HU45.out).trans' hu7).trans hu8 (fun x hx => .inr (by simp at hx; omega))⟩
        rw [HII.out]
        refine (HX7.out.upd hu8 (fun y hy q => q.elim (HGA.out.2.1 y hy) (fun q => by simp at hy; omega))).more (fun y q => q.elim (HGA.out.2.2 y) (fun q => .inr (by have := HU4.out.size; have := HU45.out.size; omega))))
end
end Go.Proofs.Ytabhdigannalgaa

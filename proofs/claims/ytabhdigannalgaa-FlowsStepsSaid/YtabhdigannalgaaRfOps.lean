/-
  The contracts of the document's Set, Drop, Push, Rest (concourseref25), on its flows and its row. Condition: rows of some hundred numbers at most.
-/
import Derived.Test.YtabhdigannalgaaRfSet
namespace Go.Proofs.Ytabhdigannalgaa
open Go Go.RowKit

theorem wpList_append_run {P : Program} (w : World) {ops : Array Oper} {rest : List Oper} {o : Oper} {a : Act} {Q : Exit → Act → World → Prop}
    (hg : o.guard = none) (s x : Operand) (t : TypeId) (hop : o.op = Op.call { callee := Callee.builtin Builtin.append, args := #[s, x], argTypes := #[t, t] })
    {v vx v' : Value} {w' : World} (hs : a.eval s = v) (hx : a.eval x = vx) (hrun : (Builtin.append_ #[t, t] o.type #[v, vx]).run P w = .ok v' w') (h : wpList P ops Q rest (a.put o.dst v') w') :
    wpList P ops Q (o :: rest) a w :=
  wpList_plain hg fun _ hK' => wp_append_run s x t hop hs hx hrun (hK' _ _ h)

/-- the blocks of a ring of the document's lie in Y -/
def InY (Y : Nat → Prop) (fv rv : Value) (cv : Nat → Value) : Prop := (∀ x ∈ blkL fv, Y x) ∧ (∀ x ∈ blkL rv, Y x) ∧ ∀ j, j < 9 → ∀ x ∈ blkL (cv j), Y x
theorem InY.more {Y Y' : Nat → Prop} {fv rv : Value} {cv : Nat → Value} (h : InY Y fv rv cv) (hy : ∀ x, Y x → Y' x) : InY Y' fv rv cv := ⟨fun x hx => hy x (h.1 x hx), fun x hx => hy x (h.2.1 x hx), fun j hj x hx => hy x (h.2.2 j hj x hx)⟩
theorem InY.upd {Y : Nat → Prop} {fv rv fv' rv' c : Value} {cv : Nat → Value} {w : World} (h : InY Y fv rv cv) (n : Nat) (h1 : ∀ x ∈ blkL fv', w.heap.size ≤ x) (h2 : ∀ x ∈ blkL rv', grow Y w x) (h3 : ∀ x ∈ blkL c, grow Y w x) : InY (grow Y w) fv' rv' (updN cv n c) :=
  ⟨fun x hx => .inr (h1 x hx), h2, fun j hj x hx => by
    by_cases e : j = n
    · subst e; rw [updN_same] at hx; exact h3 x hx
    · rw [updN_other _ _ e] at hx; exact .inl (h.2.2 j hj x hx)⟩

theorem updN_updN {α : Type} (G : Nat → α) (n : Nat) (a b : α) : updN (updN G n a) n b = updN G n b := by
  funext j; unfold updN; split <;> rfl

/-- append([]int{}, l...) -/
theorem run_copy_ints {w : World} {ra : Option Addr} {rc : Nat} {l : List Int} (h : Ints w (.slice ra l.length rc) l) (hlen : l.length ≤ 2000) :
    ∃ ao cap w', (Builtin.append_ #[36, 36] 36 #[.slice (some ⟨w.heap.size, 0, none⟩) 0 0, .slice ra l.length rc]).run Try.prog (w.alloc (.cells #[] 3)) = .ok (.slice ao l.length cap) w' ∧
      Sub w' w.heap.size 3 1 (.slice ao l.length cap) l.length (l.map i64) ∧ Upd [] w w' := by
  obtain ⟨i0, hi, hz0, hz1, hz2⟩ := info_parts info_int2
  have hnew : Sub (w.alloc (.cells #[] 3)) w.heap.size 3 1 (.slice (some ⟨w.heap.size, 0, none⟩) 0 0) 0 [] :=
    ⟨rfl, .inr ⟨w.heap.size, 0, 0, #[], rfl, Nat.le_refl _, heap_alloc_new _ _, Nat.le_refl _, by unfold maxLen; omega, by simp, fun j hj => by omega⟩⟩
  obtain ⟨ao1, cap1, w1, hrun1, hs1, hu1, hb1⟩ := run_append_sl (P := Try.prog) (w := w.alloc (.cells #[] 3)) w.heap.size 36 36 3 i0 _ 1 8 Try.underlying36 hi hz0 hz1 hz2 rfl (by decide) hnew (Sub.src (h.upd0 ((Upd.refl [] w).alloc _))) (by rw [List.length_map, Nat.mul_one]) (ints_one l) (by unfold maxLen; omega) (by omega) (by simp)
  rw [List.nil_append] at hs1
  simp only [Nat.zero_add] at hrun1 hs1
  exact ⟨ao1, cap1, w1, hrun1, hs1, ((Upd.refl [] w).alloc _).trans hu1 (by intro g hg; simp [blkL] at hg; exact .inr (by omega))⟩
/-- append(append([]int{}, l...), c) -/
theorem run_copy_push {w : World} {ra : Option Addr} {rc : Nat} {l : List Int} (h : Ints w (.slice ra l.length rc) l) (hlen : l.length ≤ 2000) (c : Int) :
    ∃ ao cap w1 ao2 cap2 w2, (Builtin.append_ #[36, 36] 36 #[.slice (some ⟨w.heap.size, 0, none⟩) 0 0, .slice ra l.length rc]).run Try.prog (w.alloc (.cells #[] 3)) = .ok (.slice ao l.length cap) w1 ∧ Upd [] w w1 ∧
      (Builtin.append_ #[36, 36] 36 #[.slice ao l.length cap, .slice (some ⟨w1.heap.size, 0, none⟩) 1 1]).run Try.prog (w1.alloc (.cells #[i64 c] 3)) = .ok (.slice ao2 (l.length + 1) cap2) w2 ∧
      Ints w2 (.slice ao2 (l.length + 1) cap2) (l ++ [c]) ∧ Upd [] w w2 ∧ ∀ x ∈ blkL (.slice ao2 (l.length + 1) cap2), w.heap.size ≤ x := by
  obtain ⟨i0, hi, hz0, hz1, hz2⟩ := info_parts info_int2
  obtain ⟨ao1, cap1, w1, hrun1, hs1, hu1⟩ := run_copy_ints h hlen
  obtain ⟨ao2, cap2, w2, hrun2, hs2, hu2, hb2⟩ := run_append_sl (P := Try.prog) (w := w1.alloc (.cells #[i64 c] 3)) w.heap.size 36 36 3 i0 _ 1 8 Try.underlying36 hi hz0 hz1 hz2 rfl (by decide) (hs1.upd0 ((Upd.refl [] w1).alloc _)) (src_block (heap_alloc_new _ _) 1 1) rfl (by intro u hu; simp at hu; subst hu; rfl) (by unfold maxLen; omega) (by omega) (by have := hu1.size; simp; omega)
  refine ⟨ao1, cap1, w1, ao2, cap2, w2, hrun1, hu1, hrun2, ?_, (hu1.alloc _).trans hu2 (fun g hg => .inr (hs1.lt g hg).1), fun x hx => (hs2.lt x hx).1⟩
  unfold Ints
  rw [List.length_append, List.map_append]
  exact hs2.mono (Nat.zero_le _)

section
variable {w : World} {fv rv : Value} {G : Nat → F6} {cv : Nat → Value} {row : List Int}

set_option maxRecDepth 100000 in
set_option maxHeartbeats 4000000 in
theorem rpushG_c (h : FlsAt w fv G cv) (hr : Ints w rv row) (hlen : row.length ≤ 100) (n : Nat) (hn : n < 9) (hcs : (G n).cs.length ≤ 1000) (c : Int) (hc : 1 ≤ c ∧ c ≤ 1040) (hth : (G n).th = true) :
    Calls Try.prog 21 #[.agg #[fv, rv], i64 n, i64 c] w fun e w' =>
      ∃ fv' rv' cv', e = .returned (.tuple #[.agg #[fv', rv'], i64 0]) ∧ FlsAt w' fv' (updN G n (stF { G n with cs := (G n).cs ++ [c] } row n)) cv' ∧ Ints w' rv' (stR { G n with cs := (G n).cs ++ [c] } row n) ∧ Upd [] w w' ∧ ∀ Y, InY Y fv rv cv → InY (grow Y w) fv' rv' cv' := by
  obtain ⟨g, off, cap, rfl, hg, hcap⟩ := h.form
  obtain ⟨ra, rc, rfl, hrc, -⟩ := hr.sl
  obtain ⟨ca, cc, hcv⟩ := h.row hn
  have hn8 : (n : Int) < 9 := by omega
  have htg : thereG G n = true := by unfold thereG; rw [decide_eq_true (by omega)]; simpa using hth
  have hthc := fun (w' : World) (hu : Upd [] w w') => rthere_c (h.upd0 hu) n ra row.length rc
  rw [htg] at hthc
  have HF := Lib.hid h
  have HR := Lib.hid hr
  have HTH := Lib.hid hthc
  clear h hr hthc htg
  refine post fun R hR => ?_
  go_enter Try.func21, Try.ntmps21
  go_upto_region 1 with (fail)
  obtain ⟨A, hA⟩ : ∃ A, A = w.heap.size := ⟨_, rfl⟩
  have hAw : w.heap.size ≤ A := by omega
  have hA1 := heap_alloc_old (heap_alloc_new w (.cells #[.slice (some ⟨g, off, none⟩) 9 cap, .slice ra row.length rc] 46)) (.cells #[.slice none 0 0, .slice none 0 0] 46)
  have hA2 := heap_new2 w (.cells #[.slice (some ⟨g, off, none⟩) 9 cap, .slice ra row.length rc] 46) (.cells #[.slice none 0 0, .slice none 0 0] 46)
  have hu0 := ((Upd.refl [] w).alloc (.cells #[.slice (some ⟨g, off, none⟩) 9 cap, .slice ra row.length rc] 46)).alloc (.cells #[.slice none 0 0, .slice none 0 0] 46)
  rw [← hA] at hA1 hA2 ⊢
  clear hA
  generalize (w.alloc (.cells #[.slice (some ⟨g, off, none⟩) 9 cap, .slice ra row.length rc] 46)).alloc (.cells #[.slice none 0 0, .slice none 0 0] 46) = w1 at *
  have hs1 := lt_of_heap hA1
  have hs2 := lt_of_heap hA2
  obtain ⟨a0, a1, p0, p1⟩ := cells2 hA1
  obtain ⟨b0, b1, q0, q1⟩ := cells2 hA2
  have HU0 := Lib.hid hu0
  clear hu0
  go_wp2_with (fail)
  refine (HTH.out _ HU0.out).mono ?_
  rintro e w2 ⟨rfl, hu2⟩
  have hB1 := hu2.keep0 hA1
  have hB2 := hu2.keep0 hA2
  have HU2 := Lib.hid (HU0.out.trans' hu2)
  clear hA1 hA2 hs1 hs2 a0 a1 p0 p1 b0 b1 q0 q1 hu2
  have hs1 := lt_of_heap hB1
  have hs2 := lt_of_heap hB2
  obtain ⟨a0, a1, p0, p1⟩ := cells2 hB1
  obtain ⟨b0, b1, q0, q1⟩ := cells2 hB2
  obtain ⟨d0, d1, d2, d3, d4, d5⟩ := (HF.out.upd0 HU2.out).get hn
  rw [hcv] at d3
  generalize hGn : G n = f at *
  have HG := Lib.hid hGn
  clear hGn
  obtain ⟨th, q, d, cs, rs, an⟩ := f
  simp only at d0 d1 d2 d3 d4 d5 hcs hcv hth
  subst hth
  go_upto_region 6 with (fail)
  obtain ⟨X, hX⟩ : ∃ X, X = w2.heap.size := ⟨_, rfl⟩
  have hC1 := heap_alloc_old hB1 (.cells #[.bool true, i64 q, i64 d, .slice ca cs.length cc, .bool rs, .bool an] 103)
  have hC2 := heap_alloc_old hB2 (.cells #[.bool true, i64 q, i64 d, .slice ca cs.length cc, .bool rs, .bool an] 103)
  have hC3 := heap_alloc_new w2 (.cells #[.bool true, i64 q, i64 d, .slice ca cs.length cc, .bool rs, .bool an] 103)
  have HUC := Lib.hid (HU2.out.alloc (.cells #[.bool true, i64 q, i64 d, .slice ca cs.length cc, .bool rs, .bool an] 103))
  rw [← hX] at hC3 ⊢
  have hAX : A + 1 < X := by omega
  clear hX hs1 hs2 a0 a1 p0 p1 b0 b1 q0 q1 d0 d1 d2 d3 d4 d5 hB1 hB2
  generalize w2.alloc (.cells #[.bool true, i64 q, i64 d, .slice ca cs.length cc, .bool rs, .bool an] 103) = w3 at *
  have hcs3 : Ints w3 (.slice ca cs.length cc) cs := by have := (HF.out.2 n hn).upd0 HUC.out; rw [hcv, HG.out] at this; exact this
  obtain ⟨ao1, cap1, w4, ao2, cap2, w5, hr1, hu4, hr2, hi5, hu5, hn5⟩ := run_copy_push hcs3 (by omega) c
  have HYC : Hid (∀ Y, InY Y (.slice (some ⟨g, off, none⟩) 9 cap) (.slice ra row.length rc) cv → ∀ x ∈ blkL (.slice ao2 (cs.length + 1) cap2), grow Y w x) := Lib.hid (fun Y _ x hx => .inr (Nat.le_trans HUC.out.size (hn5 x hx)))
  clear hn5
  have HR1 := Lib.hid hr1
  have HR2 := Lib.hid hr2
  have HI5 := Lib.hid hi5
  have hD1 := hu5.keep0 hC1
  have hD2 := hu5.keep0 hC2
  have hD3 := hu5.keep0 hC3
  have HU5 := Lib.hid (HUC.out.trans' hu5)
  have t1 := lt_of_heap hC3
  have t2 := lt_of_heap hD3
  have t3 := lt_of_heap (hu4.keep0 hC3)
  obtain ⟨x0, x1, x2, x3, x4, x5, -⟩ := cells6 hC3
  obtain ⟨e0, e1, e2, e3, e4, e5, y0, y1, y2, y3, y4, y5⟩ := cells6 hD3
  clear hr1 hr2 hi5 hu4 hu5 hcs3
  go_upto_region 7 with (at_builtin; first | (refine wpList_append_run _ rfl _ _ 36 rfl rfl rfl HR1.out ?_; clear HR1) | (refine wpList_append_run _ rfl _ _ 36 rfl rfl rfl HR2.out ?_))
  have hE1 := heap_setCell_ne (c := X) hD1 (by omega) 3 (.slice ao2 (cs.length + 1) cap2)
  have hE2 := heap_setCell_ne (c := X) hD2 (by omega) 3 (.slice ao2 (cs.length + 1) cap2)
  have hE3 := hset6_3 (v := .slice ao2 (cs.length + 1) cap2) hD3
  have hu6 : Upd [X] w5 (w5.setCell ⟨X, 3, none⟩ (.slice ao2 (cs.length + 1) cap2)) := (Upd.refl _ _).setCell (by simp) _
  have HI6 := Lib.hid (HI5.out.upd hu6 (fun x hx hm => by
    obtain ⟨c2, h2⟩ := Sub.ty HI5.out x hx
    have := List.mem_singleton.1 hm; subst this
    exact cells_ne hD3 h2 (by decide) rfl))
  have HU6 := Lib.hid (HU5.out.trans hu6 (fun x hx => .inr (by have := List.mem_singleton.1 hx; omega)))
  clear hC1 hC2 hC3 hD1 hD2 hD3 t1 t2 t3 x0 x1 x2 x3 x4 x5 e0 e1 e2 e3 e4 e5 y0 y1 y2 y3 y4 y5 HI5 HU5 hu6
  generalize w5.setCell ⟨X, 3, none⟩ (.slice ao2 (cs.length + 1) cap2) = w6 at *
  rw [show cs.length + 1 = (cs ++ [c]).length from by simp] at HI6 hE3 HYC ⊢
  have hnl : (cs ++ [c]).length ≤ 2000 := by simp; omega
  generalize hcn : cs ++ [c] = cn at *
  have HCN := Lib.hid hcn
  clear hcn
  obtain ⟨x0, x1, x2, x3, x4, x5, -⟩ := cells6 hE3
  obtain ⟨a0, a1, -⟩ := cells2 hE1
  have hwi := rwith_c (HF.out.upd0 HU6.out) n hn ⟨true, q, d, cn, rs, an⟩ HI6.out ra row.length rc
  have HWI := Lib.hid hwi
  clear hwi
  go_wp2_with (fail)
  refine HWI.out.mono ?_
  rintro e w7 ⟨fv7, rfl, hF7, hu7, -⟩
  have hst := rsettle_c hF7 ((HR.out.upd0 HU6.out).upd0 hu7) hlen n hn (by rw [updN_same]; exact hnl)
  rw [updN_same, updN_updN] at hst
  have HST := Lib.hid hst
  have hG2 := hu7.keep0 hE2
  have HU7 := Lib.hid (HU6.out.trans' hu7)
  clear hst hE1 hE2 a0 a1 hF7 hu7
  go_wp2_with (fail)
  refine HST.out.mono ?_
  rintro e w8 ⟨fv8, rv8, rfl, hF8, hi8, hu8, hnf8, hnr8⟩
  have HNF := Lib.hid (fun x hx => Nat.le_trans HU7.out.size (hnf8 x hx) : ∀ x ∈ blkL fv8, w.heap.size ≤ x)
  have HNR := Lib.hid (fun x hx => Nat.le_trans HU7.out.size (hnr8 x hx) : ∀ x ∈ blkL rv8, w.heap.size ≤ x)
  clear hnf8 hnr8
  have hH2 := hu8.keep0 hG2
  have HU8 := Lib.hid (HU7.out.trans' hu8)
  obtain ⟨g8, off8, cap8, rfl, -, -⟩ := hF8.form
  obtain ⟨ao8, cp8, rfl, -⟩ := hi8.sl
  generalize hrl : (stR ⟨true, q, d, cn, rs, an⟩ row n).length = rl at *
  have HRL := Lib.hid hrl
  have HF8 := Lib.hid hF8
  have HI8 := Lib.hid hi8
  clear hG2 hu8 hF8 hi8 hrl
  obtain ⟨b0, b1, q0, q1⟩ := cells2 hH2
  go_wp2_with (fail)
  have hK2 := hset2_1 (v := .slice ao8 rl cp8) (hset2_0 (v := .slice (some ⟨g8, off8, none⟩) 9 cap8) hH2)
  have hu9 : Upd [A + 1] w8 ((w8.setCell ⟨A + 1, 0, none⟩ (.slice (some ⟨g8, off8, none⟩) 9 cap8)).setCell ⟨A + 1, 1, none⟩ (.slice ao8 rl cp8)) := ((Upd.refl _ _).setCell (by simp) _).setCell (by simp) _
  obtain ⟨k0, k1, -⟩ := cells2 hK2
  clear b0 b1 q0 q1
  refine bodyPost_ret (v := .tuple #[.agg #[.slice (some ⟨g8, off8, none⟩) 9 cap8, .slice ao8 rl cp8], i64 0]) (by simp [results, Try.results21, go_sem, *]) rfl ?_
  refine hR.out _ _ ?_
  have hF9 := HF8.out.off hu9 (fun x hx => by have := List.mem_singleton.1 hx; subst this; exact ⟨_, _, hH2, by decide, by decide⟩)
  have hi9 := HI8.out.upd hu9 (fun x hx hm => by
    obtain ⟨c2, h2⟩ := Sub.ty HI8.out x hx
    have := List.mem_singleton.1 hm; subst this
    exact cells_ne hH2 h2 (by decide) rfl)
  have hu10 := HU8.out.trans hu9 (fun x hx => .inr (by have := List.mem_singleton.1 hx; omega))
  exact ⟨_, _, _, rfl, hF9, hi9, hu10, fun Y h => h.upd n HNF.out (fun x hx => .inr (HNR.out x hx)) (HYC.out Y h)⟩

set_option maxRecDepth 100000 in
set_option maxHeartbeats 4000000 in
theorem rrestG_c (h : FlsAt w fv G cv) (hr : Ints w rv row) (hlen : row.length ≤ 100) (n : Nat) (hn : n < 9) (hcs : (G n).cs.length ≤ 1000) (b : Bool) (hth : (G n).th = true) :
    Calls Try.prog 22 #[.agg #[fv, rv], i64 n, .bool b] w fun e w' =>
      ∃ fv' rv' cv', e = .returned (.tuple #[.agg #[fv', rv'], i64 0]) ∧ FlsAt w' fv' (updN G n (stF { G n with rs := b } row n)) cv' ∧ Ints w' rv' (stR { G n with rs := b } row n) ∧ Upd [] w w' ∧ ∀ Y, InY Y fv rv cv → InY (grow Y w) fv' rv' cv' := by
  obtain ⟨g, off, cap, rfl, hg, hcap⟩ := h.form
  obtain ⟨ra, rc, rfl, hrc, -⟩ := hr.sl
  obtain ⟨ca, cc, hcv⟩ := h.row hn
  have hn8 : (n : Int) < 9 := by omega
  have htg : thereG G n = true := by unfold thereG; rw [decide_eq_true (by omega)]; simpa using hth
  have hthc := fun (w' : World) (hu : Upd [] w w') => rthere_c (h.upd0 hu) n ra row.length rc
  rw [htg] at hthc
  have HF := Lib.hid h
  have HR := Lib.hid hr
  have HTH := Lib.hid hthc
  clear h hr hthc htg
  refine post fun R hR => ?_
  go_enter Try.func22, Try.ntmps22
  go_upto_region 1 with (fail)
  obtain ⟨A, hA⟩ : ∃ A, A = w.heap.size := ⟨_, rfl⟩
  have hAw : w.heap.size ≤ A := by omega
  have hA1 := heap_alloc_old (heap_alloc_new w (.cells #[.slice (some ⟨g, off, none⟩) 9 cap, .slice ra row.length rc] 46)) (.cells #[.slice none 0 0, .slice none 0 0] 46)
  have hA2 := heap_new2 w (.cells #[.slice (some ⟨g, off, none⟩) 9 cap, .slice ra row.length rc] 46) (.cells #[.slice none 0 0, .slice none 0 0] 46)
  have hu0 := ((Upd.refl [] w).alloc (.cells #[.slice (some ⟨g, off, none⟩) 9 cap, .slice ra row.length rc] 46)).alloc (.cells #[.slice none 0 0, .slice none 0 0] 46)
  rw [← hA] at hA1 hA2 ⊢
  clear hA
  generalize (w.alloc (.cells #[.slice (some ⟨g, off, none⟩) 9 cap, .slice ra row.length rc] 46)).alloc (.cells #[.slice none 0 0, .slice none 0 0] 46) = w1 at *
  have hs1 := lt_of_heap hA1
  have hs2 := lt_of_heap hA2
  obtain ⟨a0, a1, p0, p1⟩ := cells2 hA1
  obtain ⟨b0, b1, q0, q1⟩ := cells2 hA2
  have HU0 := Lib.hid hu0
  clear hu0
  go_wp2_with (fail)
  refine (HTH.out _ HU0.out).mono ?_
  rintro e w2 ⟨rfl, hu2⟩
  have hB1 := hu2.keep0 hA1
  have hB2 := hu2.keep0 hA2
  have HU2 := Lib.hid (HU0.out.trans' hu2)
  clear hA1 hA2 hs1 hs2 a0 a1 p0 p1 b0 b1 q0 q1 hu2
  have hs1 := lt_of_heap hB1
  have hs2 := lt_of_heap hB2
  obtain ⟨a0, a1, p0, p1⟩ := cells2 hB1
  obtain ⟨b0, b1, q0, q1⟩ := cells2 hB2
  obtain ⟨d0, d1, d2, d3, d4, d5⟩ := (HF.out.upd0 HU2.out).get hn
  rw [hcv] at d3
  generalize hGn : G n = f at *
  have HG := Lib.hid hGn
  clear hGn
  obtain ⟨th, q, d, cs, rs, an⟩ := f
  simp only at d0 d1 d2 d3 d4 d5 hcs hcv hth
  subst hth
  go_upto_region 4 with (fail)
  obtain ⟨X, hX⟩ : ∃ X, X = w2.heap.size := ⟨_, rfl⟩
  have hC1 := heap_alloc_old hB1 (.cells #[.bool true, i64 q, i64 d, .slice ca cs.length cc, .bool rs, .bool an] 103)
  have hC2 := heap_alloc_old hB2 (.cells #[.bool true, i64 q, i64 d, .slice ca cs.length cc, .bool rs, .bool an] 103)
  have hC3 := heap_alloc_new w2 (.cells #[.bool true, i64 q, i64 d, .slice ca cs.length cc, .bool rs, .bool an] 103)
  have HUC := Lib.hid (HU2.out.alloc (.cells #[.bool true, i64 q, i64 d, .slice ca cs.length cc, .bool rs, .bool an] 103))
  rw [← hX] at hC3 ⊢
  have hAX : A + 1 < X := by omega
  clear hX hs1 hs2 a0 a1 p0 p1 b0 b1 q0 q1 d0 d1 d2 d3 d4 d5 hB1 hB2
  generalize w2.alloc (.cells #[.bool true, i64 q, i64 d, .slice ca cs.length cc, .bool rs, .bool an] 103) = w3 at *
  have hcs3 : Ints w3 (.slice ca cs.length cc) cs := by have := (HF.out.2 n hn).upd0 HUC.out; rw [hcv, HG.out] at this; exact this
  have t1 := lt_of_heap hC3
  obtain ⟨x0, x1, x2, x3, x4, x5, y0, y1, y2, y3, y4, y5⟩ := cells6 hC3
  go_upto_region 5 with (fail)
  have hE1 := heap_setCell_ne (c := X) hC1 (by omega) 4 (.bool b)
  have hE2 := heap_setCell_ne (c := X) hC2 (by omega) 4 (.bool b)
  have hE3 := hset6_4 (v := .bool b) hC3
  have hu6 : Upd [X] w3 (w3.setCell ⟨X, 4, none⟩ (.bool b)) := (Upd.refl _ _).setCell (by simp) _
  have HI6 := Lib.hid (hcs3.upd hu6 (fun x hx hm => by
    obtain ⟨c2, h2⟩ := Sub.ty hcs3 x hx
    have := List.mem_singleton.1 hm; subst this
    exact cells_ne hC3 h2 (by decide) rfl))
  have HU6 := Lib.hid (HUC.out.trans hu6 (fun x hx => .inr (by have := List.mem_singleton.1 hx; omega)))
  clear hC1 hC2 hC3 t1 x0 x1 x2 x3 x4 x5 y0 y1 y2 y3 y4 y5 hu6 hcs3
  generalize w3.setCell ⟨X, 4, none⟩ (.bool b) = w6 at *
  have hnl : cs.length ≤ 2000 := by omega
  have HYC : Hid (∀ Y, InY Y (.slice (some ⟨g, off, none⟩) 9 cap) (.slice ra row.length rc) cv → ∀ x ∈ blkL (.slice ca cs.length cc), grow Y w x) := Lib.hid (fun Y h x hx => .inl (h.2.2 n hn x (by rw [hcv]; exact hx)))
  obtain ⟨x0, x1, x2, x3, x4, x5, -⟩ := cells6 hE3
  obtain ⟨a0, a1, -⟩ := cells2 hE1
  have hwi := rwith_c (HF.out.upd0 HU6.out) n hn ⟨true, q, d, cs, b, an⟩ HI6.out ra row.length rc
  have HWI := Lib.hid hwi
  clear hwi
  go_wp2_with (fail)
  refine HWI.out.mono ?_
  rintro e w7 ⟨fv7, rfl, hF7, hu7, -⟩
  have hst := rsettle_c hF7 ((HR.out.upd0 HU6.out).upd0 hu7) hlen n hn (by rw [updN_same]; exact hnl)
  rw [updN_same, updN_updN] at hst
  have HST := Lib.hid hst
  have hG2 := hu7.keep0 hE2
  have HU7 := Lib.hid (HU6.out.trans' hu7)
  clear hst hE1 hE2 a0 a1 hF7 hu7
  go_wp2_with (fail)
  refine HST.out.mono ?_
  rintro e w8 ⟨fv8, rv8, rfl, hF8, hi8, hu8, hnf8, hnr8⟩
  have HNF := Lib.hid (fun x hx => Nat.le_trans HU7.out.size (hnf8 x hx) : ∀ x ∈ blkL fv8, w.heap.size ≤ x)
  have HNR := Lib.hid (fun x hx => Nat.le_trans HU7.out.size (hnr8 x hx) : ∀ x ∈ blkL rv8, w.heap.size ≤ x)
  clear hnf8 hnr8
  have hH2 := hu8.keep0 hG2
  have HU8 := Lib.hid (HU7.out.trans' hu8)
  obtain ⟨g8, off8, cap8, rfl, -, -⟩ := hF8.form
  obtain ⟨ao8, cp8, rfl, -⟩ := hi8.sl
  generalize hrl : (stR ⟨true, q, d, cs, b, an⟩ row n).length = rl at *
  have HRL := Lib.hid hrl
  have HF8 := Lib.hid hF8
  have HI8 := Lib.hid hi8
  clear hG2 hu8 hF8 hi8 hrl
  obtain ⟨b0, b1, q0, q1⟩ := cells2 hH2
  go_wp2_with (fail)
  have hK2 := hset2_1 (v := .slice ao8 rl cp8) (hset2_0 (v := .slice (some ⟨g8, off8, none⟩) 9 cap8) hH2)
  have hu9 : Upd [A + 1] w8 ((w8.setCell ⟨A + 1, 0, none⟩ (.slice (some ⟨g8, off8, none⟩) 9 cap8)).setCell ⟨A + 1, 1, none⟩ (.slice ao8 rl cp8)) := ((Upd.refl _ _).setCell (by simp) _).setCell (by simp) _
  obtain ⟨k0, k1, -⟩ := cells2 hK2
  clear b0 b1 q0 q1
  refine bodyPost_ret (v := .tuple #[.agg #[.slice (some ⟨g8, off8, none⟩) 9 cap8, .slice ao8 rl cp8], i64 0]) (by simp [results, Try.results22, go_sem, *]) rfl ?_
  refine hR.out _ _ ?_
  have hF9 := HF8.out.off hu9 (fun x hx => by have := List.mem_singleton.1 hx; subst this; exact ⟨_, _, hH2, by decide, by decide⟩)
  have hi9 := HI8.out.upd hu9 (fun x hx hm => by
    obtain ⟨c2, h2⟩ := Sub.ty HI8.out x hx
    have := List.mem_singleton.1 hm; subst this
    exact cells_ne hH2 h2 (by decide) rfl)
  have hu10 := HU8.out.trans hu9 (fun x hx => .inr (by have := List.mem_singleton.1 hx; omega))
  exact ⟨_, _, _, rfl, hF9, hi9, hu10, fun Y h => h.upd n HNF.out (fun x hx => .inr (HNR.out x hx)) (HYC.out Y h)⟩

set_option maxRecDepth 100000 in
set_option maxHeartbeats 4000000 in
theorem rdropG_c (h : FlsAt w fv G cv) (hr : Ints w rv row) (hlen : row.length ≤ 100) (n : Nat) (hn : n < 9) (hth : (G n).th = true) :
    Calls Try.prog 23 #[.agg #[fv, rv], i64 n] w fun e w' =>
      ∃ fv' rv' cv', e = .returned (.tuple #[.agg #[fv', rv'], i64 (G n).cs.length]) ∧ FlsAt w' fv' (updN G n (stF F6.zero row n)) cv' ∧ Ints w' rv' (stR F6.zero row n) ∧ Upd [] w w' ∧ ∀ Y, InY Y fv rv cv → InY (grow Y w) fv' rv' cv' := by
  obtain ⟨g, off, cap, rfl, hg, hcap⟩ := h.form
  obtain ⟨ra, rc, rfl, hrc, -⟩ := hr.sl
  obtain ⟨ca, cc, hcv⟩ := h.row hn
  have hn8 : (n : Int) < 9 := by omega
  have htg : thereG G n = true := by unfold thereG; rw [decide_eq_true (by omega)]; simpa using hth
  have hthc := fun (w' : World) (hu : Upd [] w w') => rthere_c (h.upd0 hu) n ra row.length rc
  rw [htg] at hthc
  have HF := Lib.hid h
  have HR := Lib.hid hr
  have HTH := Lib.hid hthc
  clear h hr hthc htg
  refine post fun R hR => ?_
  go_enter Try.func23, Try.ntmps23
  go_upto_region 1 with (fail)
  obtain ⟨A, hA⟩ : ∃ A, A = w.heap.size := ⟨_, rfl⟩
  have hAw : w.heap.size ≤ A := by omega
  have hA1 := heap_alloc_old (heap_alloc_new w (.cells #[.slice (some ⟨g, off, none⟩) 9 cap, .slice ra row.length rc] 46)) (.cells #[.slice none 0 0, .slice none 0 0] 46)
  have hA2 := heap_new2 w (.cells #[.slice (some ⟨g, off, none⟩) 9 cap, .slice ra row.length rc] 46) (.cells #[.slice none 0 0, .slice none 0 0] 46)
  have hu0 := ((Upd.refl [] w).alloc (.cells #[.slice (some ⟨g, off, none⟩) 9 cap, .slice ra row.length rc] 46)).alloc (.cells #[.slice none 0 0, .slice none 0 0] 46)
  rw [← hA] at hA1 hA2 ⊢
  clear hA
  generalize (w.alloc (.cells #[.slice (some ⟨g, off, none⟩) 9 cap, .slice ra row.length rc] 46)).alloc (.cells #[.slice none 0 0, .slice none 0 0] 46) = w1 at *
  have hs1 := lt_of_heap hA1
  have hs2 := lt_of_heap hA2
  obtain ⟨a0, a1, p0, p1⟩ := cells2 hA1
  obtain ⟨b0, b1, q0, q1⟩ := cells2 hA2
  have HU0 := Lib.hid hu0
  clear hu0
  go_wp2_with (fail)
  refine (HTH.out _ HU0.out).mono ?_
  rintro e w2 ⟨rfl, hu2⟩
  have hB1 := hu2.keep0 hA1
  have hB2 := hu2.keep0 hA2
  have HU2 := Lib.hid (HU0.out.trans' hu2)
  clear hA1 hA2 hs1 hs2 a0 a1 p0 p1 b0 b1 q0 q1 hu2
  have hs1 := lt_of_heap hB1
  have hs2 := lt_of_heap hB2
  obtain ⟨a0, a1, p0, p1⟩ := cells2 hB1
  obtain ⟨b0, b1, q0, q1⟩ := cells2 hB2
  obtain ⟨-, -, -, d3, -, -⟩ := (HF.out.upd0 HU2.out).get hn
  rw [hcv] at d3
  generalize (G n).cs.length = kk at *
  go_upto_region 4 with (fail)
  have hE1 := hB1
  have hE2 := hB2
  have HU6 := HU2
  have HI6 : Hid (Ints w2 (.slice none 0 0) []) := Lib.hid (sub_nil _ _ _ _)
  have hnl : F6.zero.cs.length ≤ 2000 := by decide
  have HYC : Hid (∀ Y, InY Y (.slice (some ⟨g, off, none⟩) 9 cap) (.slice ra row.length rc) cv → ∀ x ∈ blkL (.slice none 0 0), grow Y w x) := Lib.hid (fun Y h x hx => by simp [blkL] at hx)
  clear hB1 hB2 hs1 hs2 a0 a1 p0 p1 b0 b1 q0 q1 d3
  obtain ⟨a0, a1, -⟩ := cells2 hE1
  have hwi := rwith_c (HF.out.upd0 HU6.out) n hn F6.zero HI6.out ra row.length rc
  have HWI := Lib.hid hwi
  clear hwi
  go_wp2_with (fail)
  refine HWI.out.mono ?_
  rintro e w7 ⟨fv7, rfl, hF7, hu7, -⟩
  have hst := rsettle_c hF7 ((HR.out.upd0 HU6.out).upd0 hu7) hlen n hn (by rw [updN_same]; exact hnl)
  rw [updN_same, updN_updN] at hst
  have HST := Lib.hid hst
  have hG2 := hu7.keep0 hE2
  have HU7 := Lib.hid (HU6.out.trans' hu7)
  clear hst hE1 hE2 a0 a1 hF7 hu7
  go_wp2_with (fail)
  refine HST.out.mono ?_
  rintro e w8 ⟨fv8, rv8, rfl, hF8, hi8, hu8, hnf8, hnr8⟩
  have HNF := Lib.hid (fun x hx => Nat.le_trans HU7.out.size (hnf8 x hx) : ∀ x ∈ blkL fv8, w.heap.size ≤ x)
  have HNR := Lib.hid (fun x hx => Nat.le_trans HU7.out.size (hnr8 x hx) : ∀ x ∈ blkL rv8, w.heap.size ≤ x)
  clear hnf8 hnr8
  have hH2 := hu8.keep0 hG2
  have HU8 := Lib.hid (HU7.out.trans' hu8)
  obtain ⟨g8, off8, cap8, rfl, -, -⟩ := hF8.form
  obtain ⟨ao8, cp8, rfl, -⟩ := hi8.sl
  generalize hrl : (stR F6.zero row n).length = rl at *
  have HRL := Lib.hid hrl
  have HF8 := Lib.hid hF8
  have HI8 := Lib.hid hi8
  clear hG2 hu8 hF8 hi8 hrl
  obtain ⟨b0, b1, q0, q1⟩ := cells2 hH2
  go_wp2_with (fail)
  have hK2 := hset2_1 (v := .slice ao8 rl cp8) (hset2_0 (v := .slice (some ⟨g8, off8, none⟩) 9 cap8) hH2)
  have hu9 : Upd [A + 1] w8 ((w8.setCell ⟨A + 1, 0, none⟩ (.slice (some ⟨g8, off8, none⟩) 9 cap8)).setCell ⟨A + 1, 1, none⟩ (.slice ao8 rl cp8)) := ((Upd.refl _ _).setCell (by simp) _).setCell (by simp) _
  obtain ⟨k0, k1, -⟩ := cells2 hK2
  clear b0 b1 q0 q1
  refine bodyPost_ret (v := .tuple #[.agg #[.slice (some ⟨g8, off8, none⟩) 9 cap8, .slice ao8 rl cp8], i64 kk]) (by simp [results, Try.results23, go_sem, *]) rfl ?_
  refine hR.out _ _ ?_
  have hF9 := HF8.out.off hu9 (fun x hx => by have := List.mem_singleton.1 hx; subst this; exact ⟨_, _, hH2, by decide, by decide⟩)
  have hi9 := HI8.out.upd hu9 (fun x hx hm => by
    obtain ⟨c2, h2⟩ := Sub.ty HI8.out x hx
    have := List.mem_singleton.1 hm; subst this
    exact cells_ne hH2 h2 (by decide) rfl)
  have hu10 := HU8.out.trans hu9 (fun x hx => .inr (by have := List.mem_singleton.1 hx; omega))
  exact ⟨_, _, _, rfl, hF9, hi9, hu10, fun Y h => h.upd n HNF.out (fun x hx => .inr (HNR.out x hx)) (HYC.out Y h)⟩

set_option maxRecDepth 100000 in
set_option maxHeartbeats 4000000 in
theorem rsetG_c (h : FlsAt w fv G cv) (hr : Ints w rv row) (n : Nat) (hn : n < 9) (k : Int) (hk : 1 ≤ k ∧ k ≤ 1048576) :
    Calls Try.prog 20 #[.agg #[fv, rv], i64 n, i64 k] w fun e w' =>
      ∃ fv' rv' cv', e = .returned (.tuple #[.agg #[fv', rv'], i64 0]) ∧ FlsAt w' fv' (updN G n { G n with th := true, q := k, d := min (G n).d k }) cv' ∧ Ints w' rv' row ∧ Upd [] w w' ∧ ∀ Y, InY Y fv rv cv → InY (grow Y w) fv' rv' cv' := by
  obtain ⟨g, off, cap, rfl, hg, hcap⟩ := h.form
  obtain ⟨ra, rc, rfl, hrc, -⟩ := hr.sl
  obtain ⟨ca, cc, hcv⟩ := h.row hn
  have hn8 : (n : Int) < 9 := by omega
  have HF := Lib.hid h
  have HR := Lib.hid hr
  clear h hr
  refine post fun R hR => ?_
  go_enter Try.func20, Try.ntmps20
  go_upto_region 1 with (fail)
  obtain ⟨A, hA⟩ : ∃ A, A = w.heap.size := ⟨_, rfl⟩
  have hAw : w.heap.size ≤ A := by omega
  have hA1 := heap_alloc_old (heap_alloc_new w (.cells #[.slice (some ⟨g, off, none⟩) 9 cap, .slice ra row.length rc] 46)) (.cells #[.slice none 0 0, .slice none 0 0] 46)
  have hA2 := heap_new2 w (.cells #[.slice (some ⟨g, off, none⟩) 9 cap, .slice ra row.length rc] 46) (.cells #[.slice none 0 0, .slice none 0 0] 46)
  have hu0 := ((Upd.refl [] w).alloc (.cells #[.slice (some ⟨g, off, none⟩) 9 cap, .slice ra row.length rc] 46)).alloc (.cells #[.slice none 0 0, .slice none 0 0] 46)
  rw [← hA] at hA1 hA2 ⊢
  clear hA
  generalize (w.alloc (.cells #[.slice (some ⟨g, off, none⟩) 9 cap, .slice ra row.length rc] 46)).alloc (.cells #[.slice none 0 0, .slice none 0 0] 46) = w1 at *
  have hs1 := lt_of_heap hA1
  have hs2 := lt_of_heap hA2
  obtain ⟨a0, a1, p0, p1⟩ := cells2 hA1
  obtain ⟨b0, b1, q0, q1⟩ := cells2 hA2
  have HU0 := Lib.hid hu0
  clear hu0
  have HU2 := HU0
  have hB1 := hA1
  have hB2 := hA2
  clear hA1 hA2
  obtain ⟨d0, d1, d2, d3, d4, d5⟩ := (HF.out.upd0 HU2.out).get hn
  rw [hcv] at d3
  generalize hGn : G n = f at *
  have HG := Lib.hid hGn
  clear hGn
  obtain ⟨th, q, d, cs, rs, an⟩ := f
  simp only at d0 d1 d2 d3 d4 d5 hcv
  go_upto_region 4 with (fail)
  obtain ⟨X, hX⟩ : ∃ X, X = w1.heap.size := ⟨_, rfl⟩
  have hC1 := heap_alloc_old hB1 (.cells #[.bool th, i64 q, i64 d, .slice ca cs.length cc, .bool rs, .bool an] 103)
  have hC2 := heap_alloc_old hB2 (.cells #[.bool th, i64 q, i64 d, .slice ca cs.length cc, .bool rs, .bool an] 103)
  have hC3 := heap_alloc_new w1 (.cells #[.bool th, i64 q, i64 d, .slice ca cs.length cc, .bool rs, .bool an] 103)
  have HUC := Lib.hid (HU2.out.alloc (.cells #[.bool th, i64 q, i64 d, .slice ca cs.length cc, .bool rs, .bool an] 103))
  rw [← hX] at hC3 ⊢
  have hAX : A + 1 < X := by omega
  clear hX hs1 hs2 a0 a1 p0 p1 b0 b1 q0 q1 d0 d1 d2 d3 d4 d5 hB1 hB2
  generalize w1.alloc (.cells #[.bool th, i64 q, i64 d, .slice ca cs.length cc, .bool rs, .bool an] 103) = w3 at *
  have hcs3 : Ints w3 (.slice ca cs.length cc) cs := by have := (HF.out.2 n hn).upd0 HUC.out; rw [hcv, HG.out] at this; exact this
  have t1 := lt_of_heap hC3
  obtain ⟨x0, x1, x2, x3, x4, x5, y0, y1, y2, y3, y4, y5⟩ := cells6 hC3
  go_upto_region 6 with (fail)
  have hE1 := heap_setCell_ne (c := X) (heap_setCell_ne (c := X) hC1 (by omega) 0 (.bool true)) (by omega) 1 (i64 k)
  have hE2 := heap_setCell_ne (c := X) (heap_setCell_ne (c := X) hC2 (by omega) 0 (.bool true)) (by omega) 1 (i64 k)
  have hE3 := hset6_1 (v := i64 k) (hset6_0 (v := .bool true) hC3)
  have hu6 : Upd [X] w3 ((w3.setCell ⟨X, 0, none⟩ (.bool true)).setCell ⟨X, 1, none⟩ (i64 k)) := ((Upd.refl _ _).setCell (by simp) _).setCell (by simp) _
  have HI6 := Lib.hid (hcs3.upd hu6 (fun x hx hm => by
    obtain ⟨c2, h2⟩ := Sub.ty hcs3 x hx
    have := List.mem_singleton.1 hm; subst this
    exact cells_ne hC3 h2 (by decide) rfl))
  have HU6 := Lib.hid (HUC.out.trans hu6 (fun x hx => .inr (by have := List.mem_singleton.1 hx; omega)))
  clear hC1 hC2 hC3 t1 x0 x1 x2 x3 x4 x5 y0 y1 y2 y3 y4 y5 hu6 hcs3
  generalize (w3.setCell ⟨X, 0, none⟩ (.bool true)).setCell ⟨X, 1, none⟩ (i64 k) = w6 at *
  obtain ⟨x0, x1, x2, x3, x4, x5, y0, y1, y2, y3, y4, y5⟩ := cells6 hE3
  have t1 := lt_of_heap hE3
  by_cases hdk : k < d
  · have HMIN := Lib.hid (show min d k = k from by omega)
    go_upto_region 8 with (fail)
    have hF1 := heap_setCell_ne (c := X) hE1 (by omega) 2 (i64 k)
    have hF2 := heap_setCell_ne (c := X) hE2 (by omega) 2 (i64 k)
    have hF3 := hset6_2 (v := i64 k) hE3
    have hu7 : Upd [X] w6 (w6.setCell ⟨X, 2, none⟩ (i64 k)) := (Upd.refl _ _).setCell (by simp) _
    replace HI6 := Lib.hid (HI6.out.upd hu7 (fun x hx hm => by
      obtain ⟨c2, h2⟩ := Sub.ty HI6.out x hx
      have := List.mem_singleton.1 hm; subst this
      exact cells_ne hE3 h2 (by decide) rfl))
    replace HU6 := Lib.hid (HU6.out.trans hu7 (fun x hx => .inr (by have := List.mem_singleton.1 hx; omega)))
    clear hE1 hE2 hE3 t1 x0 x1 x2 x3 x4 x5 y0 y1 y2 y3 y4 y5 hu7
    generalize w6.setCell ⟨X, 2, none⟩ (i64 k) = w7 at *
    obtain ⟨a0, a1, -⟩ := cells2 hF1
    obtain ⟨x0, x1, x2, x3, x4, x5, -⟩ := cells6 hF3
    have hwi := rwith_c (HF.out.upd0 HU6.out) n hn ⟨true, k, k, cs, rs, an⟩ HI6.out ra row.length rc
    have HWI := Lib.hid hwi
    clear hwi
    go_wp2_with (fail)
    refine HWI.out.mono ?_
    rintro e w8 ⟨fv8, rfl, hF8, hu8, hnf8⟩
    have HNF := Lib.hid (fun x hx => Nat.le_trans HU6.out.size (hnf8 x hx) : ∀ x ∈ blkL fv8, w.heap.size ≤ x)
    clear hnf8
    have hH2 := hu8.keep0 hF2
    have HU8 := Lib.hid (HU6.out.trans' hu8)
    obtain ⟨g8, off8, cap8, rfl, -, -⟩ := hF8.form
    have HF8 := Lib.hid hF8
    have HI8 := Lib.hid (HR.out.upd0 HU8.out)
    clear hu8 hF8 hF1 hF2 hF3 a0 a1 x0 x1 x2 x3 x4 x5
    obtain ⟨b0, b1, q0, q1⟩ := cells2 hH2
    go_wp2_with (fail)
    have hK2 := hset2_1 (v := .slice ra row.length rc) (hset2_0 (v := .slice (some ⟨g8, off8, none⟩) 9 cap8) hH2)
    have hu9 : Upd [A + 1] w8 ((w8.setCell ⟨A + 1, 0, none⟩ (.slice (some ⟨g8, off8, none⟩) 9 cap8)).setCell ⟨A + 1, 1, none⟩ (.slice ra row.length rc)) := ((Upd.refl _ _).setCell (by simp) _).setCell (by simp) _
    obtain ⟨k0, k1, -⟩ := cells2 hK2
    clear b0 b1 q0 q1
    refine bodyPost_ret (v := .tuple #[.agg #[.slice (some ⟨g8, off8, none⟩) 9 cap8, .slice ra row.length rc], i64 0]) (by simp [results, Try.results20, go_sem, *]) rfl ?_
    refine hR.out _ _ ?_
    have hF9 := HF8.out.off hu9 (fun x hx => by have := List.mem_singleton.1 hx; subst this; exact ⟨_, _, hH2, by decide, by decide⟩)
    have hi9 := HI8.out.upd hu9 (fun x hx hm => by
      obtain ⟨c2, h2⟩ := Sub.ty HI8.out x hx
      have := List.mem_singleton.1 hm; subst this
      exact cells_ne hH2 h2 (by decide) rfl)
    have hu10 := HU8.out.trans hu9 (fun x hx => .inr (by have := List.mem_singleton.1 hx; omega))
    refine ⟨_, _, updN cv n (.slice ca cs.length cc), rfl, ?_, hi9, hu10, fun Y h => h.upd n HNF.out (fun x hx => .inl (h.2.1 x hx)) (fun x hx => .inl (h.2.2 n hn x (by rw [hcv]; exact hx)))⟩
    show FlsAt _ _ (updN G n ⟨true, k, min d k, cs, rs, an⟩) _
    rw [HMIN.out]
    exact hF9
  · have HMIN := Lib.hid (show min d k = d from by omega)
    have hF1 := hE1
    have hF2 := hE2
    have hF3 := hE3
    clear hE1 hE2 hE3 t1 x0 x1 x2 x3 x4 x5 y0 y1 y2 y3 y4 y5
    obtain ⟨x0, x1, x2, x3, x4, x5, -⟩ := cells6 hF3
    go_upto_region 8 with (fail)
    clear x0 x1 x2 x3 x4 x5
    obtain ⟨a0, a1, -⟩ := cells2 hF1
    obtain ⟨x0, x1, x2, x3, x4, x5, -⟩ := cells6 hF3
    have hwi := rwith_c (HF.out.upd0 HU6.out) n hn ⟨true, k, d, cs, rs, an⟩ HI6.out ra row.length rc
    have HWI := Lib.hid hwi
    clear hwi
    go_wp2_with (fail)
    refine HWI.out.mono ?_
    rintro e w8 ⟨fv8, rfl, hF8, hu8, hnf8⟩
    have HNF := Lib.hid (fun x hx => Nat.le_trans HU6.out.size (hnf8 x hx) : ∀ x ∈ blkL fv8, w.heap.size ≤ x)
    clear hnf8
    have hH2 := hu8.keep0 hF2
    have HU8 := Lib.hid (HU6.out.trans' hu8)
    obtain ⟨g8, off8, cap8, rfl, -, -⟩ := hF8.form
    have HF8 := Lib.hid hF8
    have HI8 := Lib.hid (HR.out.upd0 HU8.out)
    clear hu8 hF8 hF1 hF2 hF3 a0 a1 x0 x1 x2 x3 x4 x5
    obtain ⟨b0, b1, q0, q1⟩ := cells2 hH2
    go_wp2_with (fail)
    have hK2 := hset2_1 (v := .slice ra row.length rc) (hset2_0 (v := .slice (some ⟨g8, off8, none⟩) 9 cap8) hH2)
    have hu9 : Upd [A + 1] w8 ((w8.setCell ⟨A + 1, 0, none⟩ (.slice (some ⟨g8, off8, none⟩) 9 cap8)).setCell ⟨A + 1, 1, none⟩ (.slice ra row.length rc)) := ((Upd.refl _ _).setCell (by simp) _).setCell (by simp) _
    obtain ⟨k0, k1, -⟩ := cells2 hK2
    clear b0 b1 q0 q1
    refine bodyPost_ret (v := .tuple #[.agg #[.slice (some ⟨g8, off8, none⟩) 9 cap8, .slice ra row.length rc], i64 0]) (by simp [results, Try.results20, go_sem, *]) rfl ?_
    refine hR.out _ _ ?_
    have hF9 := HF8.out.off hu9 (fun x hx => by have := List.mem_singleton.1 hx; subst this; exact ⟨_, _, hH2, by decide, by decide⟩)
    have hi9 := HI8.out.upd hu9 (fun x hx hm => by
      obtain ⟨c2, h2⟩ := Sub.ty HI8.out x hx
      have := List.mem_singleton.1 hm; subst this
      exact cells_ne hH2 h2 (by decide) rfl)
    have hu10 := HU8.out.trans hu9 (fun x hx => .inr (by have := List.mem_singleton.1 hx; omega))
    refine ⟨_, _, updN cv n (.slice ca cs.length cc), rfl, ?_, hi9, hu10, fun Y h => h.upd n HNF.out (fun x hx => .inl (h.2.1 x hx)) (fun x hx => .inl (h.2.2 n hn x (by rw [hcv]; exact hx)))⟩
    show FlsAt _ _ (updN G n ⟨true, k, min d k, cs, rs, an⟩) _
    rw [HMIN.out]
    exact hF9
end
end Go.Proofs.Ytabhdigannalgaa

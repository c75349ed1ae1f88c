/-
  The contract of the document's Settle (concourseref25). Condition: rows of some hundred numbers at most.
-/
import Derived.Test.YtabhdigannalgaaRfRow
namespace Go.Proofs.Ytabhdigannalgaa
open Go Go.RowKit

def F6.act (f : F6) : Bool := f.th && decide (0 < f.cs.length) && !f.rs
/-- the flow, and the row, behind Settle -/
def stF (f : F6) (row : List Int) (n : Int) : F6 := if f.act = true then (if n ∈ row then f else { f with d := 0, an := true }) else { f with d := 0 }
def stR (f : F6) (row : List Int) (n : Int) : List Int := if f.act = true then (if n ∈ row then row else row ++ [n]) else offR n row
theorem stF_cs (f : F6) (row : List Int) (n : Int) : (stF f row n).cs = f.cs := by unfold stF; split; split; all_goals rfl
theorem new_of {b0 : Nat} {v v' : Value} {m : Nat} (h : blkL v' = blkL v ∨ ∃ g, blkL v' = [g] ∧ m ≤ g) (h0 : ∀ x ∈ blkL v, b0 ≤ x) (hm : b0 ≤ m) : ∀ x ∈ blkL v', b0 ≤ x := fun x hx => by
  rcases h with e | ⟨y, e, hy⟩
  · exact h0 x (e ▸ hx)
  · rw [e] at hx
    have := List.mem_singleton.1 hx
    omega
theorem updN_self {α : Type} (G : Nat → α) (n : Nat) : updN G n (G n) = G := by
  funext j; unfold updN; split
  · rename_i e; rw [e]
  · rfl
theorem offR_lt {n : Int} {l : List Int} : (offR n l).length < l.length ↔ n ∈ l := by
  induction l with
  | nil => simp [offR]
  | cons a t ih =>
    by_cases e : a = n
    · subst e
      have : (offR a t).length ≤ t.length := List.length_filter_le _ _
      have h2 : offR a (a :: t) = offR a t := by unfold offR; simp
      rw [h2]; simp; omega
    · have h2 : offR n (a :: t) = a :: offR n t := by unfold offR; simp [e]
      rw [h2]; simp only [List.length_cons, List.mem_cons]
      constructor
      · intro h; exact .inr (ih.1 (by omega))
      · rintro (h | h)
        · exact (e h.symm).elim
        · have := ih.2 h; omega

set_option maxRecDepth 100000 in
set_option maxHeartbeats 4000000 in
theorem rsettle_c {w : World} {fv rv : Value} {G : Nat → F6} {cv : Nat → Value} {row : List Int} (h : FlsAt w fv G cv) (hr : Ints w rv row) (hlen : row.length ≤ 100) (n : Nat) (hn : n < 9) (hcs : (G n).cs.length ≤ 2000) :
    Calls Try.prog 56 #[.agg #[fv, rv], i64 n] w fun e w' =>
      ∃ fv' rv', e = .returned (.agg #[fv', rv']) ∧ FlsAt w' fv' (updN G n (stF (G n) row n)) cv ∧ Ints w' rv' (stR (G n) row n) ∧ Upd [] w w' ∧ (∀ x ∈ blkL fv', w.heap.size ≤ x) ∧ ∀ x ∈ blkL rv', w.heap.size ≤ x := by
  obtain ⟨g, off, cap, rfl, hg, hcap⟩ := h.form
  obtain ⟨ra, rc, rfl, hrc, -⟩ := hr.sl
  obtain ⟨ca, cc, hcv⟩ := h.row hn
  have hn8 : (n : Int) < 9 := by omega
  have hwo := fun (w' : World) (hu : Upd [] w w') => rwithout_c (hr.upd0 hu) (by omega) n
  have hlt := offR_lt (n := n) (l := row)
  obtain ⟨d0, d1, d2, d3, d4, d5⟩ := h.get hn
  rw [hcv] at d3
  have HF := Lib.hid h
  have HR := Lib.hid hr
  have HWO := Lib.hid hwo
  have HLT := Lib.hid hlt
  clear h hr hwo hlt
  refine post fun R hR => ?_
  go_enter Try.func56, Try.ntmps56
  go_upto_region 2 with (fail)
  generalize hGn : G n = f at *
  have HG := Lib.hid hGn
  clear hGn
  obtain ⟨th, q, d, cs, rs, an⟩ := f
  simp only at d0 d1 d2 d3 d4 d5 hcs hcv ⊢
  obtain ⟨A, hA⟩ : ∃ A, A = w.heap.size := ⟨_, rfl⟩
  have hAw : w.heap.size ≤ A := by omega
  have hA1 := heap_alloc_old (heap_alloc_old (heap_alloc_new w (.cells #[.slice (some ⟨g, off, none⟩) 9 cap, .slice ra row.length rc] 46)) (.cells #[.slice none 0 0, .slice none 0 0] 46)) (.cells #[.bool th, i64 q, i64 d, .slice ca cs.length cc, .bool rs, .bool an] 103)
  have hA2 := heap_alloc_old (heap_new2 w (.cells #[.slice (some ⟨g, off, none⟩) 9 cap, .slice ra row.length rc] 46) (.cells #[.slice none 0 0, .slice none 0 0] 46)) (.cells #[.bool th, i64 q, i64 d, .slice ca cs.length cc, .bool rs, .bool an] 103)
  have hA3 : ((((w.alloc (.cells #[.slice (some ⟨g, off, none⟩) 9 cap, .slice ra row.length rc] 46)).alloc (.cells #[.slice none 0 0, .slice none 0 0] 46)).alloc (.cells #[.bool th, i64 q, i64 d, .slice ca cs.length cc, .bool rs, .bool an] 103)).heap)[w.heap.size + 1 + 1]? = _ := heap_new3 _ _ _ _
  have hu0 := (((Upd.refl [] w).alloc (.cells #[.slice (some ⟨g, off, none⟩) 9 cap, .slice ra row.length rc] 46)).alloc (.cells #[.slice none 0 0, .slice none 0 0] 46)).alloc (.cells #[.bool th, i64 q, i64 d, .slice ca cs.length cc, .bool rs, .bool an] 103)
  rw [← hA] at hA1 hA2 hA3 ⊢
  clear hA d0 d1 d2 d3 d4 d5
  generalize ((w.alloc (.cells #[.slice (some ⟨g, off, none⟩) 9 cap, .slice ra row.length rc] 46)).alloc (.cells #[.slice none 0 0, .slice none 0 0] 46)).alloc (.cells #[.bool th, i64 q, i64 d, .slice ca cs.length cc, .bool rs, .bool an] 103) = w1 at *
  have hs1 := lt_of_heap hA1
  have hs2 := lt_of_heap hA2
  have hs3 := lt_of_heap hA3
  obtain ⟨a0, a1, p0, p1⟩ := cells2 hA1
  obtain ⟨b0, b1, q0, q1⟩ := cells2 hA2
  obtain ⟨c0, c1, c2, c3, c4, c5, y0, y1, y2, y3, y4, y5⟩ := cells6 hA3
  have hwo1 : Calls Try.prog 69 #[.slice ra row.length rc, i64 n] w1.drew fun e w' => ∃ ao cp, e = .returned (.slice ao (offR n row).length cp) ∧ w'.cell? ⟨A, 1, none⟩ = some (.slice ra row.length rc) ∧ Upd [] w1 w' := by
    refine (HWO.out _ hu0.drew).mono ?_
    rintro e w' ⟨v', rfl, g1, g2, -⟩
    obtain ⟨ao, cp, rfl, -⟩ := g1.sl
    have hu : Upd [] w1 w' := (Upd.refl _ _).drew.trans' g2
    exact ⟨ao, cp, rfl, (cells2 (hu.keep0 hA1)).2.1, hu⟩
  have HW1 := Lib.hid hwo1
  have HU0 := Lib.hid hu0
  clear hwo1 hu0
  go_region_held3 (fun w' => w'.cell? ⟨A, 1, none⟩ = some (.slice ra row.length rc)) ((first | exact a1 | exact hcx2)) ((first | (go_at_call 69; (with_reducible refine Calls.mono (HW1.out) ?_); rintro e w2 ⟨ao2, cp2, rfl, hcx2, hu2⟩)))
  rename_i hHeld
  have hB1 := hu2.keep0 hA1
  have hB2 := hu2.keep0 hA2
  have hB3 := hu2.keep0 hA3
  have HU2 := Lib.hid (HU0.out.trans' hu2)
  have hin : decide ((offR (n : Int) row).length < row.length) = decide ((n : Int) ∈ row) := decide_eq_decide.2 HLT.out
  rw [hin]
  clear hA1 hA2 hA3 hs1 hs2 hs3 a0 a1 p0 p1 b0 b1 q0 q1 c0 c1 c2 c3 c4 c5 y0 y1 y2 y3 y4 y5 HW1 HU0 hHeld hcx2 hu2 hin HLT
  have hs1 := lt_of_heap hB1
  have hs2 := lt_of_heap hB2
  have hs3 := lt_of_heap hB3
  obtain ⟨a0, a1, p0, p1⟩ := cells2 hB1
  obtain ⟨b0, b1, q0, q1⟩ := cells2 hB2
  obtain ⟨c0, c1, c2, c3, c4, c5, y0, y1, y2, y3, y4, y5⟩ := cells6 hB3
  obtain ⟨i0, hi, hz0, hz1, hz2⟩ := info_parts info_int2
  have hnew : Sub (w2.alloc (.cells #[] 3)) w2.heap.size 3 1 (.slice (some ⟨w2.heap.size, 0, none⟩) 0 0) 0 [] :=
    ⟨rfl, .inr ⟨w2.heap.size, 0, 0, #[], rfl, Nat.le_refl _, heap_alloc_new _ _, Nat.le_refl _, by unfold maxLen; omega, by simp, fun j hj => by omega⟩⟩
  have hsrc := Sub.src ((HR.out.upd0 HU2.out).upd0 ((Upd.refl [] w2).alloc (.cells #[] 3)))
  have HNEW := Lib.hid hnew
  have HSRC := Lib.hid hsrc
  have HONE := Lib.hid (ints_one row)
  clear hnew hsrc
  by_cases hact : (⟨th, q, d, cs, rs, an⟩ : F6).act = true
  · have ha2 := hact
    unfold F6.act at ha2
    simp only [Bool.and_eq_true, decide_eq_true_eq, Bool.not_eq_true'] at ha2
    obtain ⟨⟨rfl, hpos⟩, rfl⟩ := ha2
    by_cases hm : (n : Int) ∈ row
    · rw [decide_eq_true hm]
      have hF' : stF ⟨true, q, d, cs, false, an⟩ row n = ⟨true, q, d, cs, false, an⟩ := by unfold stF; rw [if_pos hact, if_pos hm]
      have hR' : stR ⟨true, q, d, cs, false, an⟩ row n = row := by unfold stR; rw [if_pos hact, if_pos hm]
      have HF' := Lib.hid hF'
      have HR' := Lib.hid hR'
      clear hF' hR' hact hm
      go_upto_region 12 with (at_builtin; refine wpList_append_sub _ rfl _ _ 36 rfl w2.heap.size 3 i0 _ 1 8 Try.underlying36 hi hz0 hz1 hz2 rfl (by decide) (.slice (some ⟨w2.heap.size, 0, none⟩) 0 0) 0 [] rfl HNEW.out _ row.length rc (row.map i64) rfl HSRC.out (by simp) HONE.out (by unfold maxLen; omega) (by omega) (by simp) ?_; intro ao' cap3 w3 hs3 hu3 hb3; rw [Nat.zero_add, List.nil_append] at hs3; have hu4 : Upd [] w2 w3 := ((Upd.refl [] w2).alloc _).trans hu3 (by intro x hx; have hx2 : x = w2.heap.size := (by simpa [blkL] using hx); exact .inr (Nat.le_of_eq hx2.symm)); have HS3 := Lib.hid hs3; have HU3 := Lib.hid hu4; have hC1 := hu4.keep0 hB1; have hC2 := hu4.keep0 hB2; have hC3 := hu4.keep0 hB3; clear hs3 hu3 hb3 hu4)
      have HUC := Lib.hid (HU2.out.trans' HU3.out)
      have HROW : Hid (Ints w3 (.slice ao' row.length cap3) row) := Lib.hid (HS3.out.mono (Nat.zero_le _))
      have HRN := Lib.hid (fun x hx => Nat.le_trans HU2.out.size (HS3.out.lt x hx).1 : ∀ x ∈ blkL (.slice ao' row.length cap3), w.heap.size ≤ x)
      clear hB1 hB2 hB3 hs1 hs2 hs3 a0 a1 p0 p1 b0 b1 q0 q1 c0 c1 c2 c3 c4 c5 y0 y1 y2 y3 y4 y5 HU3 HS3 HNEW HSRC
      have t1 := lt_of_heap hC1
      have t2 := lt_of_heap hC2
      have t3 := lt_of_heap hC3
      obtain ⟨a0, a1, p0, p1⟩ := cells2 hC1
      obtain ⟨b0, b1, q0, q1⟩ := cells2 hC2
      obtain ⟨c0, c1, c2, c3, c4, c5, -⟩ := cells6 hC3
      have hcs3 : Sub w3 0 3 1 (.slice ca cs.length cc) cs.length (cs.map i64) := by have := (HF.out.2 n hn).upd0 HUC.out; rw [hcv, HG.out] at this; exact this
      have hwi := rwith_c (HF.out.upd0 HUC.out) n hn ⟨true, q, d, cs, false, an⟩ hcs3 ra row.length rc
      have HWI := Lib.hid hwi
      clear hwi
      go_wp2_with (fail)
      refine HWI.out.mono ?_
      rintro e w5 ⟨fv', rfl, hF5, hu5, hfn5⟩
      have HFN5 := Lib.hid (fun x hx => Nat.le_trans HUC.out.size (hfn5 x hx) : ∀ x ∈ blkL fv', w.heap.size ≤ x)
      clear hfn5
      have hD1 := hu5.keep0 hC1
      have hD2 := hu5.keep0 hC2
      have HU5 := Lib.hid (HUC.out.trans' hu5)
      have HROW5 := Lib.hid (HROW.out.upd0 hu5)
      obtain ⟨g5, off5, cap5, rfl, -, -⟩ := hF5.form
      have HF5 := Lib.hid hF5
      clear hC1 hC2 hC3 t1 t2 t3 a0 a1 p0 p1 b0 b1 q0 q1 c0 c1 c2 c3 c4 c5 hu5 hF5 HUC HROW hcs3
      have t1 := lt_of_heap hD1
      have t2 := lt_of_heap hD2
      obtain ⟨a0, a1, p0, p1⟩ := cells2 hD1
      obtain ⟨b0, b1, q0, q1⟩ := cells2 hD2
      go_upto_region 13 with (fail)
      have hE1 := hset2_1 (v := .slice ra row.length rc) (hset2_0 (v := .slice (some ⟨g5, off5, none⟩) 9 cap5) hD1)
      have hE2 := heap_setCell_ne (c := A) (heap_setCell_ne (c := A) hD2 (by omega) 0 (.slice (some ⟨g5, off5, none⟩) 9 cap5)) (by omega) 1 (.slice ra row.length rc)
      have hu6 : Upd [A] w5 _ := ((Upd.refl [A] w5).setCell (p := ⟨A, 0, none⟩) (by simp) (.slice (some ⟨g5, off5, none⟩) 9 cap5)).setCell (p := ⟨A, 1, none⟩) (by simp) (.slice ra row.length rc)
      clear a0 a1 p0 p1 b0 b1 q0 q1 t1 t2
      generalize (w5.setCell ⟨A, 0, none⟩ (.slice (some ⟨g5, off5, none⟩) 9 cap5)).setCell ⟨A, 1, none⟩ (.slice ra row.length rc) = w6 at *
      have t1 := lt_of_heap hE1
      have t2 := lt_of_heap hE2
      obtain ⟨a0, a1, p0, p1⟩ := cells2 hE1
      obtain ⟨b0, b1, q0, q1⟩ := cells2 hE2
      go_upto_region 14 with (fail)
      have hG1 := hset2_1 (v := .slice ao' row.length cap3) hE1
      have hG2 := heap_setCell_ne (c := A) hE2 (by omega) 1 (.slice ao' row.length cap3)
      have hu7 : Upd [A] w5 _ := hu6.setCell (p := ⟨A, 1, none⟩) (by simp) (.slice ao' row.length cap3)
      clear a0 a1 p0 p1 b0 b1 q0 q1 t1 t2 hE1 hE2 hu6
      generalize w6.setCell ⟨A, 1, none⟩ (.slice ao' row.length cap3) = w7 at *
      have t1 := lt_of_heap hG1
      have t2 := lt_of_heap hG2
      obtain ⟨a0, a1, p0, p1⟩ := cells2 hG1
      obtain ⟨b0, b1, q0, q1⟩ := cells2 hG2
      go_wp2_with (fail)
      have hH2 := hset2_1 (v := .slice ao' row.length cap3) (hset2_0 (v := .slice (some ⟨g5, off5, none⟩) 9 cap5) hG2)
      obtain ⟨k0, k1, -⟩ := cells2 hH2
      have hu8 : Upd [A, A + 1] w5 _ := ((hu7.mono (S' := [A, A + 1]) (by simp)).setCell (p := ⟨A + 1, 0, none⟩) (by simp) (.slice (some ⟨g5, off5, none⟩) 9 cap5)).setCell (p := ⟨A + 1, 1, none⟩) (by simp) (.slice ao' row.length cap3)
      clear a0 a1 p0 p1 b0 b1 q0 q1 hu7
      refine bodyPost_ret (v := .agg #[.slice (some ⟨g5, off5, none⟩) 9 cap5, .slice ao' row.length cap3]) (by simp [results, Try.results56, go_sem, *]) rfl ?_
      refine hR.out _ _ ?_
      refine ⟨_, _, rfl, ?_, ?_, HU5.out.trans hu8 (fun x hx => .inr (by simp at hx; omega)), HFN5.out, HRN.out⟩
      · rw [HF'.out]
        have := HF5.out.off hu8 (fun x hx => by
          simp at hx
          rcases hx with rfl | rfl
          · exact ⟨_, _, hD1, by decide, by decide⟩
          · exact ⟨_, _, hD2, by decide, by decide⟩)
        rw [← hcv, updN_self] at this
        exact this
      · rw [HR'.out]
        exact HROW5.out.upd hu8 (fun x hx hm => by
          obtain ⟨c, hc⟩ := HROW5.out.ty x hx
          simp at hm
          rcases hm with rfl | rfl
          · exact cells_ne hD1 hc (by decide) rfl
          · exact cells_ne hD2 hc (by decide) rfl)
    · rw [decide_eq_false hm]
      have hF' : stF ⟨true, q, d, cs, false, an⟩ row n = ⟨true, q, 0, cs, false, true⟩ := by unfold stF; rw [if_pos hact, if_neg hm]
      have hR' : stR ⟨true, q, d, cs, false, an⟩ row n = row ++ [(n : Int)] := by unfold stR; rw [if_pos hact, if_neg hm]
      have HF' := Lib.hid hF'
      have HR' := Lib.hid hR'
      clear hF' hR' hact hm
      go_upto_region 6 with (at_builtin; refine wpList_append_sub _ rfl _ _ 36 rfl w2.heap.size 3 i0 _ 1 8 Try.underlying36 hi hz0 hz1 hz2 rfl (by decide) (.slice (some ⟨w2.heap.size, 0, none⟩) 0 0) 0 [] rfl HNEW.out _ row.length rc (row.map i64) rfl HSRC.out (by simp) HONE.out (by unfold maxLen; omega) (by omega) (by simp) ?_; intro ao' cap3 w3 hs3 hu3 hb3; rw [Nat.zero_add, List.nil_append] at hs3; have hu4 : Upd [] w2 w3 := ((Upd.refl [] w2).alloc _).trans hu3 (by intro x hx; have hx2 : x = w2.heap.size := (by simpa [blkL] using hx); exact .inr (Nat.le_of_eq hx2.symm)); have HS3 := Lib.hid hs3; have HU3 := Lib.hid hu4; have hC1 := hu4.keep0 hB1; have hC2 := hu4.keep0 hB2; have hC3 := hu4.keep0 hB3; clear hs3 hu3 hb3 hu4)
      have HUC := Lib.hid (HU2.out.trans' HU3.out)
      have hgB : ∀ x ∈ blkL (.slice ao' row.length cap3), w.heap.size ≤ x ∧ ∃ cs, w3.heap[x]? = some (.cells cs 3 (0, 0)) := fun x hx => ⟨Nat.le_trans HU2.out.size (HS3.out.lt x hx).1, HS3.out.ty x hx⟩
      have HROW : Hid (Ints w3 (.slice ao' row.length cap3) row) := Lib.hid (HS3.out.mono (Nat.zero_le _))
      have HGB := Lib.hid hgB
      clear hB1 hB2 hB3 hs1 hs2 hs3 a0 a1 p0 p1 b0 b1 q0 q1 c0 c1 c2 c3 c4 c5 y0 y1 y2 y3 y4 y5 HU3 HS3 HNEW HSRC hgB
      obtain ⟨c0, c1, c2, c3, c4, c5, y0, y1, y2, y3, y4, y5⟩ := cells6 hC3
      have t3 := lt_of_heap hC3
      go_upto_region 8 with (fail)
      have hu4 : Upd [A + 1 + 1] w3 _ := ((Upd.refl [A + 1 + 1] w3).setCell (p := ⟨A + 1 + 1, 2, none⟩) (by simp) (i64 0)).setCell (p := ⟨A + 1 + 1, 5, none⟩) (by simp) (.bool true)
      have hD3 := hset6_5 (v := .bool true) (hset6_2 (v := i64 0) hC3)
      clear t3 c0 c1 c2 c3 c4 c5 y0 y1 y2 y3 y4 y5
      generalize (w3.setCell ⟨A + 1 + 1, 2, none⟩ (i64 0)).setCell ⟨A + 1 + 1, 5, none⟩ (.bool true) = w4 at *
      replace hC1 := hu4.keep hC1 (by intro hm; have := List.mem_singleton.1 hm; omega)
      replace hC2 := hu4.keep hC2 (by intro hm; have := List.mem_singleton.1 hm; omega)
      have HROW : Hid (Ints w4 (.slice ao' row.length cap3) row) := Lib.hid (HROW.out.upd hu4 (fun x hx hm => by
        obtain ⟨c, hc⟩ := (HGB.out x hx).2
        simp at hm; subst hm
        exact cells_ne hC3 hc (by decide) rfl))
      have HUC := Lib.hid (HUC.out.trans hu4 (fun x hx => .inr (by simp at hx; omega)))
      have HVB := Lib.hid (fun x hx => (HGB.out x hx).1)
      replace hC3 := hD3
      clear hD3 hu4 HGB
      have t3 := lt_of_heap hC3
      go_upto_region 12 with (at_builtin; refine wpList_append_sub _ rfl _ _ 36 rfl 0 3 i0 _ 1 8 Try.underlying36 hi hz0 hz1 hz2 rfl (by decide) (.slice ao' row.length cap3) row.length (row.map i64) rfl (HROW.out.upd0 ((Upd.refl _ _).alloc _)) _ 1 1 [i64 n] rfl (src_block (heap_alloc_new _ _) 1 1) rfl (by intro u hu; simp at hu; subst hu; rfl) (by unfold maxLen; omega) (by omega) (by simp) ?_; intro ao4 cap4 w5 hs5 hu5 hb5; have hx5 : Upd [] w w5 := (HUC.out.alloc _).trans hu5 (fun x hx => .inr (HVB.out x hx)); have hk5 : ∀ (x : Nat) (c : Array Value) (t : TypeId), w4.heap[x]? = some (.cells c t (0, 0)) → t ≠ 3 → w5.heap[x]? = some (.cells c t (0, 0)) := fun x c t hx ht => hu5.keep (heap_alloc_old hx _) (fun hm => by obtain ⟨c2, h2⟩ := HROW.out.ty x hm; exact cells_ne hx h2 ht rfl); have hrn := new_of hb5 HVB.out (by have := HUC.out.size; simp; omega); have HRN := Lib.hid hrn; have HK5 := Lib.hid hk5; have HS5 := Lib.hid hs5; have HU5 := Lib.hid hx5; clear hs5 hu5 hb5 hx5 hk5 hrn)
      replace hC1 := HK5.out _ _ _ hC1 (by decide)
      replace hC2 := HK5.out _ _ _ hC2 (by decide)
      replace hC3 := HK5.out _ _ _ hC3 (by decide)
      have HUC := HU5
      have HROW : Hid (Ints w5 (.slice ao4 (row.length + 1) cap4) (row ++ [(n : Int)])) := Lib.hid (by unfold Ints; rw [List.length_append, List.map_append]; exact HS5.out)
      clear HS5 HU5 HK5 HVB
      have t1 := lt_of_heap hC1
      have t2 := lt_of_heap hC2
      have t3 := lt_of_heap hC3
      obtain ⟨a0, a1, p0, p1⟩ := cells2 hC1
      obtain ⟨b0, b1, q0, q1⟩ := cells2 hC2
      obtain ⟨c0, c1, c2, c3, c4, c5, -⟩ := cells6 hC3
      have hcs3 : Sub w5 0 3 1 (.slice ca cs.length cc) cs.length (cs.map i64) := by have := (HF.out.2 n hn).upd0 HUC.out; rw [hcv, HG.out] at this; exact this
      have hwi := rwith_c (HF.out.upd0 HUC.out) n hn ⟨true, q, 0, cs, false, true⟩ hcs3 ra row.length rc
      have HWI := Lib.hid hwi
      clear hwi
      go_wp2_with (fail)
      refine HWI.out.mono ?_
      rintro e w5 ⟨fv', rfl, hF5, hu5, hfn5⟩
      have HFN5 := Lib.hid (fun x hx => Nat.le_trans HUC.out.size (hfn5 x hx) : ∀ x ∈ blkL fv', w.heap.size ≤ x)
      clear hfn5
      have hD1 := hu5.keep0 hC1
      have hD2 := hu5.keep0 hC2
      have HU5 := Lib.hid (HUC.out.trans' hu5)
      have HROW5 := Lib.hid (HROW.out.upd0 hu5)
      obtain ⟨g5, off5, cap5, rfl, -, -⟩ := hF5.form
      have HF5 := Lib.hid hF5
      clear hC1 hC2 hC3 t1 t2 t3 a0 a1 p0 p1 b0 b1 q0 q1 c0 c1 c2 c3 c4 c5 hu5 hF5 HUC HROW hcs3
      have t1 := lt_of_heap hD1
      have t2 := lt_of_heap hD2
      obtain ⟨a0, a1, p0, p1⟩ := cells2 hD1
      obtain ⟨b0, b1, q0, q1⟩ := cells2 hD2
      go_upto_region 13 with (fail)
      have hE1 := hset2_1 (v := .slice ra row.length rc) (hset2_0 (v := .slice (some ⟨g5, off5, none⟩) 9 cap5) hD1)
      have hE2 := heap_setCell_ne (c := A) (heap_setCell_ne (c := A) hD2 (by omega) 0 (.slice (some ⟨g5, off5, none⟩) 9 cap5)) (by omega) 1 (.slice ra row.length rc)
      have hu6 : Upd [A] w5 _ := ((Upd.refl [A] w5).setCell (p := ⟨A, 0, none⟩) (by simp) (.slice (some ⟨g5, off5, none⟩) 9 cap5)).setCell (p := ⟨A, 1, none⟩) (by simp) (.slice ra row.length rc)
      clear a0 a1 p0 p1 b0 b1 q0 q1 t1 t2
      generalize (w5.setCell ⟨A, 0, none⟩ (.slice (some ⟨g5, off5, none⟩) 9 cap5)).setCell ⟨A, 1, none⟩ (.slice ra row.length rc) = w6 at *
      have t1 := lt_of_heap hE1
      have t2 := lt_of_heap hE2
      obtain ⟨a0, a1, p0, p1⟩ := cells2 hE1
      obtain ⟨b0, b1, q0, q1⟩ := cells2 hE2
      go_upto_region 14 with (fail)
      have hG1 := hset2_1 (v := .slice ao4 (row.length + 1) cap4) hE1
      have hG2 := heap_setCell_ne (c := A) hE2 (by omega) 1 (.slice ao4 (row.length + 1) cap4)
      have hu7 : Upd [A] w5 _ := hu6.setCell (p := ⟨A, 1, none⟩) (by simp) (.slice ao4 (row.length + 1) cap4)
      clear a0 a1 p0 p1 b0 b1 q0 q1 t1 t2 hE1 hE2 hu6
      generalize w6.setCell ⟨A, 1, none⟩ (.slice ao4 (row.length + 1) cap4) = w7 at *
      have t1 := lt_of_heap hG1
      have t2 := lt_of_heap hG2
      obtain ⟨a0, a1, p0, p1⟩ := cells2 hG1
      obtain ⟨b0, b1, q0, q1⟩ := cells2 hG2
      go_wp2_with (fail)
      have hH2 := hset2_1 (v := .slice ao4 (row.length + 1) cap4) (hset2_0 (v := .slice (some ⟨g5, off5, none⟩) 9 cap5) hG2)
      obtain ⟨k0, k1, -⟩ := cells2 hH2
      have hu8 : Upd [A, A + 1] w5 _ := ((hu7.mono (S' := [A, A + 1]) (by simp)).setCell (p := ⟨A + 1, 0, none⟩) (by simp) (.slice (some ⟨g5, off5, none⟩) 9 cap5)).setCell (p := ⟨A + 1, 1, none⟩) (by simp) (.slice ao4 (row.length + 1) cap4)
      clear a0 a1 p0 p1 b0 b1 q0 q1 hu7
      refine bodyPost_ret (v := .agg #[.slice (some ⟨g5, off5, none⟩) 9 cap5, .slice ao4 (row.length + 1) cap4]) (by simp [results, Try.results56, go_sem, *]) rfl ?_
      refine hR.out _ _ ?_
      refine ⟨_, _, rfl, ?_, ?_, HU5.out.trans hu8 (fun x hx => .inr (by simp at hx; omega)), HFN5.out, HRN.out⟩
      · rw [HF'.out]
        have := HF5.out.off hu8 (fun x hx => by
          simp at hx
          rcases hx with rfl | rfl
          · exact ⟨_, _, hD1, by decide, by decide⟩
          · exact ⟨_, _, hD2, by decide, by decide⟩)
        rw [← hcv, updN_self] at this
        exact this
      · rw [HR'.out]
        exact HROW5.out.upd hu8 (fun x hx hm => by
          obtain ⟨c, hc⟩ := HROW5.out.ty x hx
          simp at hm
          rcases hm with rfl | rfl
          · exact cells_ne hD1 hc (by decide) rfl
          · exact cells_ne hD2 hc (by decide) rfl)
  · have hF' : stF ⟨th, q, d, cs, rs, an⟩ row n = ⟨th, q, 0, cs, rs, an⟩ := by unfold stF; rw [if_neg hact]
    have hR' : stR ⟨th, q, d, cs, rs, an⟩ row n = offR n row := by unfold stR; rw [if_neg hact]
    have HF' := Lib.hid hF'
    have HR' := Lib.hid hR'
    have hac : th = false ∨ (th = true ∧ cs.length = 0) ∨ (th = true ∧ 0 < cs.length ∧ rs = true) := by
      unfold F6.act at hact
      cases th with
      | false => exact .inl rfl
      | true =>
        by_cases h0 : cs.length = 0
        · exact .inr (.inl ⟨rfl, h0⟩)
        · cases rs with
          | true => exact .inr (.inr ⟨rfl, by omega, rfl⟩)
          | false => exact (hact (by simp; omega)).elim
    generalize decide ((n : Int) ∈ row) = B at *
    clear hF' hR' hact
    rcases hac with rfl | ⟨rfl, h0⟩ | ⟨rfl, hpos, rfl⟩
    · go_upto_region 10 with (at_builtin; refine wpList_append_sub _ rfl _ _ 36 rfl w2.heap.size 3 i0 _ 1 8 Try.underlying36 hi hz0 hz1 hz2 rfl (by decide) (.slice (some ⟨w2.heap.size, 0, none⟩) 0 0) 0 [] rfl HNEW.out _ row.length rc (row.map i64) rfl HSRC.out (by simp) HONE.out (by unfold maxLen; omega) (by omega) (by simp) ?_; intro ao' cap3 w3 hs3 hu3 hb3; rw [Nat.zero_add, List.nil_append] at hs3; have hu4 : Upd [] w2 w3 := ((Upd.refl [] w2).alloc _).trans hu3 (by intro x hx; have hx2 : x = w2.heap.size := (by simpa [blkL] using hx); exact .inr (Nat.le_of_eq hx2.symm)); have HS3 := Lib.hid hs3; have HU3 := Lib.hid hu4; have hC1 := hu4.keep0 hB1; have hC2 := hu4.keep0 hB2; have hC3 := hu4.keep0 hB3; clear hs3 hu3 hb3 hu4)
      try clear h0
      have HUC := Lib.hid (HU2.out.trans' HU3.out)
      have hgB : ∀ x ∈ blkL (.slice ao' row.length cap3), w.heap.size ≤ x ∧ ∃ cs, w3.heap[x]? = some (.cells cs 3 (0, 0)) := fun x hx => ⟨Nat.le_trans HU2.out.size (HS3.out.lt x hx).1, HS3.out.ty x hx⟩
      have HROW : Hid (Ints w3 (.slice ao' row.length cap3) row) := Lib.hid (HS3.out.mono (Nat.zero_le _))
      have HGB := Lib.hid hgB
      clear hB1 hB2 hB3 hs1 hs2 hs3 a0 a1 p0 p1 b0 b1 q0 q1 c0 c1 c2 c3 c4 c5 y0 y1 y2 y3 y4 y5 HU3 HS3 HNEW HSRC hgB
      obtain ⟨c0, c1, c2, c3, c4, c5, y0, y1, y2, y3, y4, y5⟩ := cells6 hC3
      have t3 := lt_of_heap hC3
      go_upto_region 11 with (fail)
      have hu4 : Upd [A + 1 + 1] w3 _ := (Upd.refl [A + 1 + 1] w3).setCell (p := ⟨A + 1 + 1, 2, none⟩) (by simp) (i64 0)
      have hD3 := hset6_2 (v := i64 0) hC3
      clear t3 c0 c1 c2 c3 c4 c5 y0 y1 y2 y3 y4 y5
      generalize w3.setCell ⟨A + 1 + 1, 2, none⟩ (i64 0) = w4 at *
      replace hC1 := hu4.keep hC1 (by intro hm; have := List.mem_singleton.1 hm; omega)
      replace hC2 := hu4.keep hC2 (by intro hm; have := List.mem_singleton.1 hm; omega)
      have HROW : Hid (Ints w4 (.slice ao' row.length cap3) row) := Lib.hid (HROW.out.upd hu4 (fun x hx hm => by
        obtain ⟨c, hc⟩ := (HGB.out x hx).2
        simp at hm; subst hm
        exact cells_ne hC3 hc (by decide) rfl))
      have HUC := Lib.hid (HUC.out.trans hu4 (fun x hx => .inr (by simp at hx; omega)))
      have HVB := Lib.hid (fun x hx => (HGB.out x hx).1)
      replace hC3 := hD3
      clear hD3 hu4 HGB
      have t3 := lt_of_heap hC3
      have hwo4 := rwithout_c HROW.out (by omega) (n : Int)
      have HWO4 := Lib.hid hwo4
      clear hwo4
      go_wp2_with (fail)
      refine HWO4.out.mono ?_
      rintro e w5 ⟨v5, rfl, hi5, hu5, hrn5⟩
      obtain ⟨ao4, cap4, rfl, -, -⟩ := hi5.sl
      have hC1 := hu5.keep0 hC1
      have hC2 := hu5.keep0 hC2
      have hC3 := hu5.keep0 hC3
      have HUC4 := HUC
      have HUC := Lib.hid (HUC.out.trans' hu5)
      have HROW := Lib.hid hi5
      have HRN := Lib.hid (fun x hx => Nat.le_trans HUC4.out.size (hrn5 x hx) : ∀ x ∈ blkL (.slice ao4 (offR (n : Int) row).length cap4), w.heap.size ≤ x)
      clear hrn5
      have hl5 : (offR (n : Int) row).length ≤ 100 := Nat.le_trans (List.length_filter_le _ _) hlen
      clear hi5 hu5 HVB
      go_upto_region 12 with (fail)
      have t1 := lt_of_heap hC1
      have t2 := lt_of_heap hC2
      have t3 := lt_of_heap hC3
      obtain ⟨a0, a1, p0, p1⟩ := cells2 hC1
      obtain ⟨b0, b1, q0, q1⟩ := cells2 hC2
      obtain ⟨c0, c1, c2, c3, c4, c5, -⟩ := cells6 hC3
      have hcs3 : Sub w5 0 3 1 (.slice ca cs.length cc) cs.length (cs.map i64) := by have := (HF.out.2 n hn).upd0 HUC.out; rw [hcv, HG.out] at this; exact this
      have hwi := rwith_c (HF.out.upd0 HUC.out) n hn ⟨false, q, 0, cs, rs, an⟩ hcs3 ra row.length rc
      have HWI := Lib.hid hwi
      clear hwi
      go_wp2_with (fail)
      refine HWI.out.mono ?_
      rintro e w5 ⟨fv', rfl, hF5, hu5, hfn5⟩
      have HFN5 := Lib.hid (fun x hx => Nat.le_trans HUC.out.size (hfn5 x hx) : ∀ x ∈ blkL fv', w.heap.size ≤ x)
      clear hfn5
      have hD1 := hu5.keep0 hC1
      have hD2 := hu5.keep0 hC2
      have HU5 := Lib.hid (HUC.out.trans' hu5)
      have HROW5 := Lib.hid (HROW.out.upd0 hu5)
      obtain ⟨g5, off5, cap5, rfl, -, -⟩ := hF5.form
      have HF5 := Lib.hid hF5
      clear hC1 hC2 hC3 t1 t2 t3 a0 a1 p0 p1 b0 b1 q0 q1 c0 c1 c2 c3 c4 c5 hu5 hF5 HUC HROW hcs3
      have t1 := lt_of_heap hD1
      have t2 := lt_of_heap hD2
      obtain ⟨a0, a1, p0, p1⟩ := cells2 hD1
      obtain ⟨b0, b1, q0, q1⟩ := cells2 hD2
      go_upto_region 13 with (fail)
      have hE1 := hset2_1 (v := .slice ra row.length rc) (hset2_0 (v := .slice (some ⟨g5, off5, none⟩) 9 cap5) hD1)
      have hE2 := heap_setCell_ne (c := A) (heap_setCell_ne (c := A) hD2 (by omega) 0 (.slice (some ⟨g5, off5, none⟩) 9 cap5)) (by omega) 1 (.slice ra row.length rc)
      have hu6 : Upd [A] w5 _ := ((Upd.refl [A] w5).setCell (p := ⟨A, 0, none⟩) (by simp) (.slice (some ⟨g5, off5, none⟩) 9 cap5)).setCell (p := ⟨A, 1, none⟩) (by simp) (.slice ra row.length rc)
      clear a0 a1 p0 p1 b0 b1 q0 q1 t1 t2
      generalize (w5.setCell ⟨A, 0, none⟩ (.slice (some ⟨g5, off5, none⟩) 9 cap5)).setCell ⟨A, 1, none⟩ (.slice ra row.length rc) = w6 at *
      have t1 := lt_of_heap hE1
      have t2 := lt_of_heap hE2
      obtain ⟨a0, a1, p0, p1⟩ := cells2 hE1
      obtain ⟨b0, b1, q0, q1⟩ := cells2 hE2
      go_upto_region 14 with (fail)
      have hG1 := hset2_1 (v := .slice ao4 (offR (n : Int) row).length cap4) hE1
      have hG2 := heap_setCell_ne (c := A) hE2 (by omega) 1 (.slice ao4 (offR (n : Int) row).length cap4)
      have hu7 : Upd [A] w5 _ := hu6.setCell (p := ⟨A, 1, none⟩) (by simp) (.slice ao4 (offR (n : Int) row).length cap4)
      clear a0 a1 p0 p1 b0 b1 q0 q1 t1 t2 hE1 hE2 hu6
      generalize w6.setCell ⟨A, 1, none⟩ (.slice ao4 (offR (n : Int) row).length cap4) = w7 at *
      have t1 := lt_of_heap hG1
      have t2 := lt_of_heap hG2
      obtain ⟨a0, a1, p0, p1⟩ := cells2 hG1
      obtain ⟨b0, b1, q0, q1⟩ := cells2 hG2
      go_wp2_with (fail)
      have hH2 := hset2_1 (v := .slice ao4 (offR (n : Int) row).length cap4) (hset2_0 (v := .slice (some ⟨g5, off5, none⟩) 9 cap5) hG2)
      obtain ⟨k0, k1, -⟩ := cells2 hH2
      have hu8 : Upd [A, A + 1] w5 _ := ((hu7.mono (S' := [A, A + 1]) (by simp)).setCell (p := ⟨A + 1, 0, none⟩) (by simp) (.slice (some ⟨g5, off5, none⟩) 9 cap5)).setCell (p := ⟨A + 1, 1, none⟩) (by simp) (.slice ao4 (offR (n : Int) row).length cap4)
      clear a0 a1 p0 p1 b0 b1 q0 q1 hu7
      refine bodyPost_ret (v := .agg #[.slice (some ⟨g5, off5, none⟩) 9 cap5, .slice ao4 (offR (n : Int) row).length cap4]) (by simp [results, Try.results56, go_sem, *]) rfl ?_
      refine hR.out _ _ ?_
      refine ⟨_, _, rfl, ?_, ?_, HU5.out.trans hu8 (fun x hx => .inr (by simp at hx; omega)), HFN5.out, HRN.out⟩
      · rw [HF'.out]
        have := HF5.out.off hu8 (fun x hx => by
          simp at hx
          rcases hx with rfl | rfl
          · exact ⟨_, _, hD1, by decide, by decide⟩
          · exact ⟨_, _, hD2, by decide, by decide⟩)
        rw [← hcv, updN_self] at this
        exact this
      · rw [HR'.out]
        exact HROW5.out.upd hu8 (fun x hx hm => by
          obtain ⟨c, hc⟩ := HROW5.out.ty x hx
          simp at hm
          rcases hm with rfl | rfl
          · exact cells_ne hD1 hc (by decide) rfl
          · exact cells_ne hD2 hc (by decide) rfl)
    · go_upto_region 10 with (at_builtin; refine wpList_append_sub _ rfl _ _ 36 rfl w2.heap.size 3 i0 _ 1 8 Try.underlying36 hi hz0 hz1 hz2 rfl (by decide) (.slice (some ⟨w2.heap.size, 0, none⟩) 0 0) 0 [] rfl HNEW.out _ row.length rc (row.map i64) rfl HSRC.out (by simp) HONE.out (by unfold maxLen; omega) (by omega) (by simp) ?_; intro ao' cap3 w3 hs3 hu3 hb3; rw [Nat.zero_add, List.nil_append] at hs3; have hu4 : Upd [] w2 w3 := ((Upd.refl [] w2).alloc _).trans hu3 (by intro x hx; have hx2 : x = w2.heap.size := (by simpa [blkL] using hx); exact .inr (Nat.le_of_eq hx2.symm)); have HS3 := Lib.hid hs3; have HU3 := Lib.hid hu4; have hC1 := hu4.keep0 hB1; have hC2 := hu4.keep0 hB2; have hC3 := hu4.keep0 hB3; clear hs3 hu3 hb3 hu4)
      try clear h0
      have HUC := Lib.hid (HU2.out.trans' HU3.out)
      have hgB : ∀ x ∈ blkL (.slice ao' row.length cap3), w.heap.size ≤ x ∧ ∃ cs, w3.heap[x]? = some (.cells cs 3 (0, 0)) := fun x hx => ⟨Nat.le_trans HU2.out.size (HS3.out.lt x hx).1, HS3.out.ty x hx⟩
      have HROW : Hid (Ints w3 (.slice ao' row.length cap3) row) := Lib.hid (HS3.out.mono (Nat.zero_le _))
      have HGB := Lib.hid hgB
      clear hB1 hB2 hB3 hs1 hs2 hs3 a0 a1 p0 p1 b0 b1 q0 q1 c0 c1 c2 c3 c4 c5 y0 y1 y2 y3 y4 y5 HU3 HS3 HNEW HSRC hgB
      obtain ⟨c0, c1, c2, c3, c4, c5, y0, y1, y2, y3, y4, y5⟩ := cells6 hC3
      have t3 := lt_of_heap hC3
      go_upto_region 11 with (fail)
      have hu4 : Upd [A + 1 + 1] w3 _ := (Upd.refl [A + 1 + 1] w3).setCell (p := ⟨A + 1 + 1, 2, none⟩) (by simp) (i64 0)
      have hD3 := hset6_2 (v := i64 0) hC3
      clear t3 c0 c1 c2 c3 c4 c5 y0 y1 y2 y3 y4 y5
      generalize w3.setCell ⟨A + 1 + 1, 2, none⟩ (i64 0) = w4 at *
      replace hC1 := hu4.keep hC1 (by intro hm; have := List.mem_singleton.1 hm; omega)
      replace hC2 := hu4.keep hC2 (by intro hm; have := List.mem_singleton.1 hm; omega)
      have HROW : Hid (Ints w4 (.slice ao' row.length cap3) row) := Lib.hid (HROW.out.upd hu4 (fun x hx hm => by
        obtain ⟨c, hc⟩ := (HGB.out x hx).2
        simp at hm; subst hm
        exact cells_ne hC3 hc (by decide) rfl))
      have HUC := Lib.hid (HUC.out.trans hu4 (fun x hx => .inr (by simp at hx; omega)))
      have HVB := Lib.hid (fun x hx => (HGB.out x hx).1)
      replace hC3 := hD3
      clear hD3 hu4 HGB
      have t3 := lt_of_heap hC3
      have hwo4 := rwithout_c HROW.out (by omega) (n : Int)
      have HWO4 := Lib.hid hwo4
      clear hwo4
      go_wp2_with (fail)
      refine HWO4.out.mono ?_
      rintro e w5 ⟨v5, rfl, hi5, hu5, hrn5⟩
      obtain ⟨ao4, cap4, rfl, -, -⟩ := hi5.sl
      have hC1 := hu5.keep0 hC1
      have hC2 := hu5.keep0 hC2
      have hC3 := hu5.keep0 hC3
      have HUC4 := HUC
      have HUC := Lib.hid (HUC.out.trans' hu5)
      have HROW := Lib.hid hi5
      have HRN := Lib.hid (fun x hx => Nat.le_trans HUC4.out.size (hrn5 x hx) : ∀ x ∈ blkL (.slice ao4 (offR (n : Int) row).length cap4), w.heap.size ≤ x)
      clear hrn5
      have hl5 : (offR (n : Int) row).length ≤ 100 := Nat.le_trans (List.length_filter_le _ _) hlen
      clear hi5 hu5 HVB
      go_upto_region 12 with (fail)
      have t1 := lt_of_heap hC1
      have t2 := lt_of_heap hC2
      have t3 := lt_of_heap hC3
      obtain ⟨a0, a1, p0, p1⟩ := cells2 hC1
      obtain ⟨b0, b1, q0, q1⟩ := cells2 hC2
      obtain ⟨c0, c1, c2, c3, c4, c5, -⟩ := cells6 hC3
      have hcs3 : Sub w5 0 3 1 (.slice ca cs.length cc) cs.length (cs.map i64) := by have := (HF.out.2 n hn).upd0 HUC.out; rw [hcv, HG.out] at this; exact this
      have hwi := rwith_c (HF.out.upd0 HUC.out) n hn ⟨true, q, 0, cs, rs, an⟩ hcs3 ra row.length rc
      have HWI := Lib.hid hwi
      clear hwi
      go_wp2_with (fail)
      refine HWI.out.mono ?_
      rintro e w5 ⟨fv', rfl, hF5, hu5, hfn5⟩
      have HFN5 := Lib.hid (fun x hx => Nat.le_trans HUC.out.size (hfn5 x hx) : ∀ x ∈ blkL fv', w.heap.size ≤ x)
      clear hfn5
      have hD1 := hu5.keep0 hC1
      have hD2 := hu5.keep0 hC2
      have HU5 := Lib.hid (HUC.out.trans' hu5)
      have HROW5 := Lib.hid (HROW.out.upd0 hu5)
      obtain ⟨g5, off5, cap5, rfl, -, -⟩ := hF5.form
      have HF5 := Lib.hid hF5
      clear hC1 hC2 hC3 t1 t2 t3 a0 a1 p0 p1 b0 b1 q0 q1 c0 c1 c2 c3 c4 c5 hu5 hF5 HUC HROW hcs3
      have t1 := lt_of_heap hD1
      have t2 := lt_of_heap hD2
      obtain ⟨a0, a1, p0, p1⟩ := cells2 hD1
      obtain ⟨b0, b1, q0, q1⟩ := cells2 hD2
      go_upto_region 13 with (fail)
      have hE1 := hset2_1 (v := .slice ra row.length rc) (hset2_0 (v := .slice (some ⟨g5, off5, none⟩) 9 cap5) hD1)
      have hE2 := heap_setCell_ne (c := A) (heap_setCell_ne (c := A) hD2 (by omega) 0 (.slice (some ⟨g5, off5, none⟩) 9 cap5)) (by omega) 1 (.slice ra row.length rc)
      have hu6 : Upd [A] w5 _ := ((Upd.refl [A] w5).setCell (p := ⟨A, 0, none⟩) (by simp) (.slice (some ⟨g5, off5, none⟩) 9 cap5)).setCell (p := ⟨A, 1, none⟩) (by simp) (.slice ra row.length rc)
      clear a0 a1 p0 p1 b0 b1 q0 q1 t1 t2
      generalize (w5.setCell ⟨A, 0, none⟩ (.slice (some ⟨g5, off5, none⟩) 9 cap5)).setCell ⟨A, 1, none⟩ (.slice ra row.length rc) = w6 at *
      have t1 := lt_of_heap hE1
      have t2 := lt_of_heap hE2
      obtain ⟨a0, a1, p0, p1⟩ := cells2 hE1
      obtain ⟨b0, b1, q0, q1⟩ := cells2 hE2
      go_upto_region 14 with (fail)
      have hG1 := hset2_1 (v := .slice ao4 (offR (n : Int) row).length cap4) hE1
      have hG2 := heap_setCell_ne (c := A) hE2 (by omega) 1 (.slice ao4 (offR (n : Int) row).length cap4)
      have hu7 : Upd [A] w5 _ := hu6.setCell (p := ⟨A, 1, none⟩) (by simp) (.slice ao4 (offR (n : Int) row).length cap4)
      clear a0 a1 p0 p1 b0 b1 q0 q1 t1 t2 hE1 hE2 hu6
      generalize w6.setCell ⟨A, 1, none⟩ (.slice ao4 (offR (n : Int) row).length cap4) = w7 at *
      have t1 := lt_of_heap hG1
      have t2 := lt_of_heap hG2
      obtain ⟨a0, a1, p0, p1⟩ := cells2 hG1
      obtain ⟨b0, b1, q0, q1⟩ := cells2 hG2
      go_wp2_with (fail)
      have hH2 := hset2_1 (v := .slice ao4 (offR (n : Int) row).length cap4) (hset2_0 (v := .slice (some ⟨g5, off5, none⟩) 9 cap5) hG2)
      obtain ⟨k0, k1, -⟩ := cells2 hH2
      have hu8 : Upd [A, A + 1] w5 _ := ((hu7.mono (S' := [A, A + 1]) (by simp)).setCell (p := ⟨A + 1, 0, none⟩) (by simp) (.slice (some ⟨g5, off5, none⟩) 9 cap5)).setCell (p := ⟨A + 1, 1, none⟩) (by simp) (.slice ao4 (offR (n : Int) row).length cap4)
      clear a0 a1 p0 p1 b0 b1 q0 q1 hu7
      refine bodyPost_ret (v := .agg #[.slice (some ⟨g5, off5, none⟩) 9 cap5, .slice ao4 (offR (n : Int) row).length cap4]) (by simp [results, Try.results56, go_sem, *]) rfl ?_
      refine hR.out _ _ ?_
      refine ⟨_, _, rfl, ?_, ?_, HU5.out.trans hu8 (fun x hx => .inr (by simp at hx; omega)), HFN5.out, HRN.out⟩
      · rw [HF'.out]
        have := HF5.out.off hu8 (fun x hx => by
          simp at hx
          rcases hx with rfl | rfl
          · exact ⟨_, _, hD1, by decide, by decide⟩
          · exact ⟨_, _, hD2, by decide, by decide⟩)
        rw [← hcv, updN_self] at this
        exact this
      · rw [HR'.out]
        exact HROW5.out.upd hu8 (fun x hx hm => by
          obtain ⟨c, hc⟩ := HROW5.out.ty x hx
          simp at hm
          rcases hm with rfl | rfl
          · exact cells_ne hD1 hc (by decide) rfl
          · exact cells_ne hD2 hc (by decide) rfl)
    · go_upto_region 10 with (at_builtin; refine wpList_append_sub _ rfl _ _ 36 rfl w2.heap.size 3 i0 _ 1 8 Try.underlying36 hi hz0 hz1 hz2 rfl (by decide) (.slice (some ⟨w2.heap.size, 0, none⟩) 0 0) 0 [] rfl HNEW.out _ row.length rc (row.map i64) rfl HSRC.out (by simp) HONE.out (by unfold maxLen; omega) (by omega) (by simp) ?_; intro ao' cap3 w3 hs3 hu3 hb3; rw [Nat.zero_add, List.nil_append] at hs3; have hu4 : Upd [] w2 w3 := ((Upd.refl [] w2).alloc _).trans hu3 (by intro x hx; have hx2 : x = w2.heap.size := (by simpa [blkL] using hx); exact .inr (Nat.le_of_eq hx2.symm)); have HS3 := Lib.hid hs3; have HU3 := Lib.hid hu4; have hC1 := hu4.keep0 hB1; have hC2 := hu4.keep0 hB2; have hC3 := hu4.keep0 hB3; clear hs3 hu3 hb3 hu4)
      try clear h0
      have HUC := Lib.hid (HU2.out.trans' HU3.out)
      have hgB : ∀ x ∈ blkL (.slice ao' row.length cap3), w.heap.size ≤ x ∧ ∃ cs, w3.heap[x]? = some (.cells cs 3 (0, 0)) := fun x hx => ⟨Nat.le_trans HU2.out.size (HS3.out.lt x hx).1, HS3.out.ty x hx⟩
      have HROW : Hid (Ints w3 (.slice ao' row.length cap3) row) := Lib.hid (HS3.out.mono (Nat.zero_le _))
      have HGB := Lib.hid hgB
      clear hB1 hB2 hB3 hs1 hs2 hs3 a0 a1 p0 p1 b0 b1 q0 q1 c0 c1 c2 c3 c4 c5 y0 y1 y2 y3 y4 y5 HU3 HS3 HNEW HSRC hgB
      obtain ⟨c0, c1, c2, c3, c4, c5, y0, y1, y2, y3, y4, y5⟩ := cells6 hC3
      have t3 := lt_of_heap hC3
      go_upto_region 11 with (fail)
      have hu4 : Upd [A + 1 + 1] w3 _ := (Upd.refl [A + 1 + 1] w3).setCell (p := ⟨A + 1 + 1, 2, none⟩) (by simp) (i64 0)
      have hD3 := hset6_2 (v := i64 0) hC3
      clear t3 c0 c1 c2 c3 c4 c5 y0 y1 y2 y3 y4 y5
      generalize w3.setCell ⟨A + 1 + 1, 2, none⟩ (i64 0) = w4 at *
      replace hC1 := hu4.keep hC1 (by intro hm; have := List.mem_singleton.1 hm; omega)
      replace hC2 := hu4.keep hC2 (by intro hm; have := List.mem_singleton.1 hm; omega)
      have HROW : Hid (Ints w4 (.slice ao' row.length cap3) row) := Lib.hid (HROW.out.upd hu4 (fun x hx hm => by
        obtain ⟨c, hc⟩ := (HGB.out x hx).2
        simp at hm; subst hm
        exact cells_ne hC3 hc (by decide) rfl))
      have HUC := Lib.hid (HUC.out.trans hu4 (fun x hx => .inr (by simp at hx; omega)))
      have HVB := Lib.hid (fun x hx => (HGB.out x hx).1)
      replace hC3 := hD3
      clear hD3 hu4 HGB
      have t3 := lt_of_heap hC3
      have hwo4 := rwithout_c HROW.out (by omega) (n : Int)
      have HWO4 := Lib.hid hwo4
      clear hwo4
      go_wp2_with (fail)
      refine HWO4.out.mono ?_
      rintro e w5 ⟨v5, rfl, hi5, hu5, hrn5⟩
      obtain ⟨ao4, cap4, rfl, -, -⟩ := hi5.sl
      have hC1 := hu5.keep0 hC1
      have hC2 := hu5.keep0 hC2
      have hC3 := hu5.keep0 hC3
      have HUC4 := HUC
      have HUC := Lib.hid (HUC.out.trans' hu5)
      have HROW := Lib.hid hi5
      have HRN := Lib.hid (fun x hx => Nat.le_trans HUC4.out.size (hrn5 x hx) : ∀ x ∈ blkL (.slice ao4 (offR (n : Int) row).length cap4), w.heap.size ≤ x)
      clear hrn5
      have hl5 : (offR (n : Int) row).length ≤ 100 := Nat.le_trans (List.length_filter_le _ _) hlen
      clear hi5 hu5 HVB
      go_upto_region 12 with (fail)
      have t1 := lt_of_heap hC1
      have t2 := lt_of_heap hC2
      have t3 := lt_of_heap hC3
      obtain ⟨a0, a1, p0, p1⟩ := cells2 hC1
      obtain ⟨b0, b1, q0, q1⟩ := cells2 hC2
      obtain ⟨c0, c1, c2, c3, c4, c5, -⟩ := cells6 hC3
      have hcs3 : Sub w5 0 3 1 (.slice ca cs.length cc) cs.length (cs.map i64) := by have := (HF.out.2 n hn).upd0 HUC.out; rw [hcv, HG.out] at this; exact this
      have hwi := rwith_c (HF.out.upd0 HUC.out) n hn ⟨true, q, 0, cs, true, an⟩ hcs3 ra row.length rc
      have HWI := Lib.hid hwi
      clear hwi
      go_wp2_with (fail)
      refine HWI.out.mono ?_
      rintro e w5 ⟨fv', rfl, hF5, hu5, hfn5⟩
      have HFN5 := Lib.hid (fun x hx => Nat.le_trans HUC.out.size (hfn5 x hx) : ∀ x ∈ blkL fv', w.heap.size ≤ x)
      clear hfn5
      have hD1 := hu5.keep0 hC1
      have hD2 := hu5.keep0 hC2
      have HU5 := Lib.hid (HUC.out.trans' hu5)
      have HROW5 := Lib.hid (HROW.out.upd0 hu5)
      obtain ⟨g5, off5, cap5, rfl, -, -⟩ := hF5.form
      have HF5 := Lib.hid hF5
      clear hC1 hC2 hC3 t1 t2 t3 a0 a1 p0 p1 b0 b1 q0 q1 c0 c1 c2 c3 c4 c5 hu5 hF5 HUC HROW hcs3
      have t1 := lt_of_heap hD1
      have t2 := lt_of_heap hD2
      obtain ⟨a0, a1, p0, p1⟩ := cells2 hD1
      obtain ⟨b0, b1, q0, q1⟩ := cells2 hD2
      go_upto_region 13 with (fail)
      have hE1 := hset2_1 (v := .slice ra row.length rc) (hset2_0 (v := .slice (some ⟨g5, off5, none⟩) 9 cap5) hD1)
      have hE2 := heap_setCell_ne (c := A) (heap_setCell_ne (c := A) hD2 (by omega) 0 (.slice (some ⟨g5, off5, none⟩) 9 cap5)) (by omega) 1 (.slice ra row.length rc)
      have hu6 : Upd [A] w5 _ := ((Upd.refl [A] w5).setCell (p := ⟨A, 0, none⟩) (by simp) (.slice (some ⟨g5, off5, none⟩) 9 cap5)).setCell (p := ⟨A, 1, none⟩) (by simp) (.slice ra row.length rc)
      clear a0 a1 p0 p1 b0 b1 q0 q1 t1 t2
      generalize (w5.setCell ⟨A, 0, none⟩ (.slice (some ⟨g5, off5, none⟩) 9 cap5)).setCell ⟨A, 1, none⟩ (.slice ra row.length rc) = w6 at *
      have t1 := lt_of_heap hE1
      have t2 := lt_of_heap hE2
      obtain ⟨a0, a1, p0, p1⟩ := cells2 hE1
      obtain ⟨b0, b1, q0, q1⟩ := cells2 hE2
      go_upto_region 14 with (fail)
      have hG1 := hset2_1 (v := .slice ao4 (offR (n : Int) row).length cap4) hE1
      have hG2 := heap_setCell_ne (c := A) hE2 (by omega) 1 (.slice ao4 (offR (n : Int) row).length cap4)
      have hu7 : Upd [A] w5 _ := hu6.setCell (p := ⟨A, 1, none⟩) (by simp) (.slice ao4 (offR (n : Int) row).length cap4)
      clear a0 a1 p0 p1 b0 b1 q0 q1 t1 t2 hE1 hE2 hu6
      generalize w6.setCell ⟨A, 1, none⟩ (.slice ao4 (offR (n : Int) row).length cap4) = w7 at *
      have t1 := lt_of_heap hG1
      have t2 := lt_of_heap hG2
      obtain ⟨a0, a1, p0, p1⟩ := cells2 hG1
      obtain ⟨b0, b1, q0, q1⟩ := cells2 hG2
      go_wp2_with (fail)
      have hH2 := hset2_1 (v := .slice ao4 (offR (n : Int) row).length cap4) (hset2_0 (v := .slice (some ⟨g5, off5, none⟩) 9 cap5) hG2)
      obtain ⟨k0, k1, -⟩ := cells2 hH2
      have hu8 : Upd [A, A + 1] w5 _ := ((hu7.mono (S' := [A, A + 1]) (by simp)).setCell (p := ⟨A + 1, 0, none⟩) (by simp) (.slice (some ⟨g5, off5, none⟩) 9 cap5)).setCell (p := ⟨A + 1, 1, none⟩) (by simp) (.slice ao4 (offR (n : Int) row).length cap4)
      clear a0 a1 p0 p1 b0 b1 q0 q1 hu7
      refine bodyPost_ret (v := .agg #[.slice (some ⟨g5, off5, none⟩) 9 cap5, .slice ao4 (offR (n : Int) row).length cap4]) (by simp [results, Try.results56, go_sem, *]) rfl ?_
      refine hR.out _ _ ?_
      refine ⟨_, _, rfl, ?_, ?_, HU5.out.trans hu8 (fun x hx => .inr (by simp at hx; omega)), HFN5.out, HRN.out⟩
      · rw [HF'.out]
        have := HF5.out.off hu8 (fun x hx => by
          simp at hx
          rcases hx with rfl | rfl
          · exact ⟨_, _, hD1, by decide, by decide⟩
          · exact ⟨_, _, hD2, by decide, by decide⟩)
        rw [← hcv, updN_self] at this
        exact this
      · rw [HR'.out]
        exact HROW5.out.upd hu8 (fun x hx hm => by
          obtain ⟨c, hc⟩ := HROW5.out.ty x hx
          simp at hm
          rcases hm with rfl | rfl
          · exact cells_ne hD1 hc (by decide) rfl
          · exact cells_ne hD2 hc (by decide) rfl)
end Go.Proofs.Ytabhdigannalgaa

/-
  The document's flows (concourseref40) in memory: its ring (chapter 25), and its nine rows of items; the contracts of with, New, Row, Set, Rest, Cost. Condition: rows of some hundred items at most.
-/
import Derived.Test.YtabhdigannalgaaFlwNone
namespace Go.Proofs.Ytabhdigannalgaa
open Go Go.RowKit Go.Maps

/-- the document's rows of items lie behind xv, in blocks of Y -/
def Rw40 (w : World) (Y : Nat → Prop) (xv : Value) (its : Nat → List It) : Prop :=
  ∃ tv, Sub w 0 85 1 xv 9 (tvl tv) ∧ (∀ x ∈ blkL xv, Y x) ∧ ∀ j, j < 9 → Sub w 0 68 5 (tv j) (its j).length (ics (its j)) ∧ ∀ x ∈ blkL (tv j), Y x
section
variable {w w' : World} {Y : Nat → Prop} {xv : Value} {its : Nat → List It}
theorem Rw40.upd (h : Rw40 w Y xv its) {S : List Nat} (hu : Upd S w w') (hS : ∀ x ∈ S, ¬ Y x) : Rw40 w' Y xv its := by
  obtain ⟨tv, h1, h2, h3⟩ := h
  exact ⟨tv, h1.upd hu fun x hx hm => hS x hm (h2 x hx), h2, fun j hj => ⟨(h3 j hj).1.upd hu fun x hx hm => hS x hm ((h3 j hj).2 x hx), (h3 j hj).2⟩⟩
theorem Rw40.upd0 (h : Rw40 w Y xv its) (hu : Upd [] w w') : Rw40 w' Y xv its := h.upd hu (by simp)
theorem Rw40.more (h : Rw40 w Y xv its) {Y' : Nat → Prop} (hy : ∀ x, Y x → Y' x) : Rw40 w Y' xv its := by
  obtain ⟨tv, h1, h2, h3⟩ := h
  exact ⟨tv, h1, fun x hx => hy x (h2 x hx), fun j hj => ⟨(h3 j hj).1, fun x hx => hy x ((h3 j hj).2 x hx)⟩⟩
theorem Rw40.cut (h : Rw40 w Y xv its) : Rw40 w (cutZ Y w) xv its := by
  obtain ⟨tv, h1, h2, h3⟩ := h
  exact ⟨tv, h1, fun x hx => ⟨h2 x hx, (h1.lt x hx).2⟩, fun j hj => ⟨(h3 j hj).1, fun x hx => ⟨(h3 j hj).2 x hx, ((h3 j hj).1.lt x hx).2⟩⟩⟩
theorem Rw40.shape (h : Rw40 w Y xv its) : ∃ g off cap, xv = .slice (some ⟨g, off, none⟩) 9 cap := by
  obtain ⟨tv, h1, -⟩ := h
  obtain ⟨ao, cap, rfl, -, h2⟩ := h1.form
  obtain ⟨g, off, rfl, -⟩ := h2 (by omega)
  exact ⟨g, off, cap, rfl⟩
end
theorem RfAt.shape {w : World} {Y : Nat → Prop} {fv rv : Value} {r : Rg} (h : RfAt w Y fv rv r) : (∃ g off cap, fv = .slice (some ⟨g, off, none⟩) 9 cap) ∧ ∃ ra rc, rv = .slice ra r.row.length rc := by
  obtain ⟨cv, h1, h2, -⟩ := h
  obtain ⟨g, off, cap, rfl, -⟩ := h1.form
  obtain ⟨ra, rc, rfl, -⟩ := h2.sl
  exact ⟨⟨g, off, cap, rfl⟩, ra, rc, rfl⟩

/-- the document's flows -/
def R4 (w : World) (Y : Nat → Prop) (fv rv xv : Value) (r : Rg) (its : Nat → List It) : Prop := RfAt w Y fv rv r ∧ Rw40 w Y xv its
section
variable {w w' : World} {Y : Nat → Prop} {fv rv xv : Value} {r : Rg} {its : Nat → List It}
theorem R4.upd (h : R4 w Y fv rv xv r its) {S : List Nat} (hu : Upd S w w') (hS : ∀ x ∈ S, ¬ Y x) : R4 w' Y fv rv xv r its := ⟨h.1.upd hu hS, h.2.upd hu hS⟩
theorem R4.upd0 (h : R4 w Y fv rv xv r its) (hu : Upd [] w w') : R4 w' Y fv rv xv r its := ⟨h.1.upd0 hu, h.2.upd0 hu⟩
theorem R4.more (h : R4 w Y fv rv xv r its) {Y' : Nat → Prop} (hy : ∀ x, Y x → Y' x) : R4 w Y' fv rv xv r its := ⟨h.1.more hy, h.2.more hy⟩
theorem R4.cut (h : R4 w Y fv rv xv r its) : R4 w (cutZ Y w) fv rv xv r its := ⟨h.1.cut, h.2.cut⟩
end

theorem info_row40 : (Try.prog.info? 85).map (fun i => (i.zero, i.size, i.bytes)) = some (some (.slice none 0 0), 1, 24) := by kernel_rfl
theorem info_item40 : (Try.prog.info? 68).map (fun i => (i.zero, i.size, i.bytes)) = some (some (.agg #[i64 0, i64 0, i64 0, .string ⟨#[]⟩, i64 0]), 5, 48) := by kernel_rfl
theorem tvl_one {w : World} {e : TypeId} {size : Nat} {tv : Nat → Value} {n : Nat → Nat} {xs : Nat → List Value} (h : ∀ j, j < 9 → Sub w 0 e size (tv j) (n j) (xs j)) : ∀ u ∈ tvl tv, u.oneCell' = true := by
  intro u hu
  unfold tvl at hu
  simp only [List.mem_cons, List.not_mem_nil, or_false] at hu
  have hj : ∃ j, j < 9 ∧ u = tv j := by
    rcases hu with h | h | h | h | h | h | h | h | h
    · exact ⟨0, by omega, h⟩
    · exact ⟨1, by omega, h⟩
    · exact ⟨2, by omega, h⟩
    · exact ⟨3, by omega, h⟩
    · exact ⟨4, by omega, h⟩
    · exact ⟨5, by omega, h⟩
    · exact ⟨6, by omega, h⟩
    · exact ⟨7, by omega, h⟩
    · exact ⟨8, by omega, h⟩
  obtain ⟨j, hj, rfl⟩ := hj
  obtain ⟨ao, cap, e, -⟩ := (h j hj).form
  rw [e]; rfl

set_option maxRecDepth 100000 in
set_option maxHeartbeats 2000000 in
theorem r4with_c {w : World} {xv : Value} {tv : Nat → Value} (h : Sub w 0 85 1 xv 9 (tvl tv)) (hone : ∀ u ∈ tvl tv, u.oneCell' = true) (n : Nat) (hn : n < 9) (fa ra la : Option Addr) (fn fc rn rc ln lc : Nat) :
    Calls Try.prog 64 #[.agg #[.slice fa fn fc, .slice ra rn rc, xv], i64 n, .slice la ln lc] w fun e w' =>
      ∃ g off cap, e = .returned (.agg #[.slice fa fn fc, .slice ra rn rc, .slice (some ⟨g, off, none⟩) 9 cap]) ∧ Sub w' 0 85 1 (.slice (some ⟨g, off, none⟩) 9 cap) 9 (tvl (updN tv n (.slice la ln lc))) ∧ Upd [] w w' ∧ w.heap.size ≤ g := by
  obtain ⟨i0, hi, hz0, hz1, hz2⟩ := info_parts info_row40
  obtain ⟨ao, cap, rfl, hcap, hx⟩ := h.form
  obtain ⟨g, off, rfl, -, hg, -⟩ := hx (by omega)
  have hn8 : (n : Int) < 9 := by omega
  have HS := Lib.hid h
  have HONE := Lib.hid hone
  clear h hone hx
  refine post fun R hR => ?_
  go_enter Try.func64, Try.ntmps64
  go_upto_region 1 with (fail)
  obtain ⟨A, hA⟩ : ∃ A, A = w.heap.size := ⟨_, rfl⟩
  have hA1 := heap_alloc_old (heap_alloc_new w (.cells #[.slice fa fn fc, .slice ra rn rc, .slice (some ⟨g, off, none⟩) 9 cap] 81)) (.cells #[.slice none 0 0, .slice none 0 0, .slice none 0 0] 81)
  have hA2 := heap_new2 w (.cells #[.slice fa fn fc, .slice ra rn rc, .slice (some ⟨g, off, none⟩) 9 cap] 81) (.cells #[.slice none 0 0, .slice none 0 0, .slice none 0 0] 81)
  have hu0 := ((Upd.refl [] w).alloc (.cells #[.slice fa fn fc, .slice ra rn rc, .slice (some ⟨g, off, none⟩) 9 cap] 81)).alloc (.cells #[.slice none 0 0, .slice none 0 0, .slice none 0 0] 81)
  have hAw : w.heap.size ≤ A := by omega
  rw [← hA] at hA1 hA2 ⊢
  clear hA
  generalize (w.alloc (.cells #[.slice fa fn fc, .slice ra rn rc, .slice (some ⟨g, off, none⟩) 9 cap] 81)).alloc (.cells #[.slice none 0 0, .slice none 0 0, .slice none 0 0] 81) = w1 at *
  have hs1 := lt_of_heap hA1
  have hs2 := lt_of_heap hA2
  have hAz : A + 1 < w1.heap.size := hs2
  have hsrc := Sub.src ((HS.out.upd0 hu0).upd0 ((Upd.refl [] w1).alloc (.cells #[] 85)))
  have hnew : Sub (w1.alloc (.cells #[] 85)) w1.heap.size 85 1 (.slice (some ⟨w1.heap.size, 0, none⟩) 0 0) 0 [] :=
    ⟨rfl, .inr ⟨w1.heap.size, 0, 0, #[], rfl, Nat.le_refl _, heap_alloc_new _ _, Nat.le_refl _, by unfold maxLen; omega, by simp, fun j hj => by omega⟩⟩
  have HSRC := Lib.hid hsrc
  have HNEW := Lib.hid hnew
  have HU0 := Lib.hid hu0
  obtain ⟨a0, a1, a2, -⟩ := cells3 hA1
  clear hsrc hnew hu0
  go_upto_region 2 with (at_builtin; refine wpList_append_sub _ rfl _ _ 79 rfl w1.heap.size 85 i0 _ 1 24 Try.underlying79 hi hz0 hz1 hz2 rfl (by decide) (.slice (some ⟨w1.heap.size, 0, none⟩) 0 0) 0 [] rfl HNEW.out _ 9 cap (tvl tv) rfl HSRC.out rfl HONE.out (by unfold maxLen; omega) (by omega) (by simp) ?_; intro ao' cap2 w2 hs2' hu2 hb2; rw [Nat.zero_add, List.nil_append] at hs2'; have hu3 : Upd [] w1 w2 := ((Upd.refl [] w1).alloc _).trans hu2 (by intro x hx; have hx2 : x = w1.heap.size := (by simpa [blkL] using hx); exact .inr (Nat.le_of_eq hx2.symm)); have HS2 := Lib.hid hs2'; have HU3 := Lib.hid hu3; clear hs2' hu2 hb2 hu3)
  obtain ⟨ao3, cap3, he3, -, hr3⟩ := HS2.out.form
  obtain ⟨g3, off3, rfl, hg3, hg3', -⟩ := hr3 (by omega)
  injection he3 with hx3 _ he3
  subst hx3; subst he3
  clear hr3
  have hB1 := HU3.out.keep0 hA1
  have hB2 := HU3.out.keep0 hA2
  have hgt : ∃ cs, w2.heap[g3]? = some (.cells cs 85 (0, 0)) := HS2.out.ty g3 (by simp [blkL])
  obtain ⟨csg, hgt⟩ := hgt
  have d0 : ∃ v, w2.cell? ⟨g3, off3 + n, none⟩ = some v := by
    obtain ⟨ao4, cap4, he4, -, hr4⟩ := HS2.out.form
    obtain ⟨g4, off4, e1, -, -, hc4⟩ := hr4 (by omega)
    injection he4 with e2 _ _
    rw [e1] at e2; injection e2 with e2; injection e2 with e3 e4
    subst e3; subst e4
    exact ⟨_, hc4 n _ (tvl_get tv hn)⟩
  obtain ⟨dv, d0⟩ := d0
  have z0 : w2.frozen? ⟨g3, off3 + n, none⟩ = false := frzOf hgt _
  have ht1 := lt_of_heap hB1
  have ht2 := lt_of_heap hB2
  clear hA1 hA2 a0 a1 a2 hs1 hs2 HNEW HSRC
  obtain ⟨a0, a1, a2, y0, y1, y2⟩ := cells3 hB1
  go_upto_region 3 with (fail)
  have hput := HS2.out.set (j := n) (by omega) (.slice la ln lc)
  rw [tvl_set tv hn] at hput
  have hu5 : Upd [g3] w2 (w2.setCell ⟨g3, off3 + n, none⟩ (.slice la ln lc)) := (Upd.refl [g3] w2).setCell (p := ⟨g3, off3 + n, none⟩) (by simp) (.slice la ln lc)
  generalize w2.setCell ⟨g3, off3 + n, none⟩ (.slice la ln lc) = w3 at *
  have hD1 := hu5.keep hB1 (by simp; omega)
  have hD2 := hu5.keep hB2 (by simp; omega)
  have HX3 := Lib.hid ((HU0.out.trans' HU3.out).trans hu5 (fun x hx => .inr (by simp at hx; have := HU0.out.size; omega)))
  have HP := Lib.hid hput
  clear hput hu5 hB1 hB2 a0 a1 a2 y0 y1 y2 ht1 ht2 d0 z0 hgt
  have ht1 := lt_of_heap hD1
  have ht2 := lt_of_heap hD2
  obtain ⟨a0, a1, a2, y0, y1, y2⟩ := cells3 hD1
  obtain ⟨c0, c1, c2, z0, z1, z2⟩ := cells3 hD2
  go_upto_region 4 with (fail)
  have hE1 := hset3_2 (v := .slice (some ⟨g3, off3, none⟩) 9 cap2) hD1
  have hE2 := heap_setCell_ne (c := A) hD2 (by omega) 2 (.slice (some ⟨g3, off3, none⟩) 9 cap2)
  have hu6 : Upd [A] w3 (w3.setCell ⟨A, 2, none⟩ (.slice (some ⟨g3, off3, none⟩) 9 cap2)) := (Upd.refl [A] w3).setCell (by simp) _
  clear a0 a1 a2 y0 y1 y2 c0 c1 c2 z0 z1 z2 ht1 ht2 hD1 hD2
  generalize w3.setCell ⟨A, 2, none⟩ (.slice (some ⟨g3, off3, none⟩) 9 cap2) = w4 at *
  have ht1 := lt_of_heap hE1
  have ht2 := lt_of_heap hE2
  obtain ⟨a0, a1, a2, y0, y1, y2⟩ := cells3 hE1
  obtain ⟨c0, c1, c2, z0, z1, z2⟩ := cells3 hE2
  go_wp2_with (fail)
  have hG2 := hset3_2 (v := .slice (some ⟨g3, off3, none⟩) 9 cap2) (hset3_1 (v := .slice ra rn rc) (hset3_0 (v := .slice fa fn fc) hE2))
  obtain ⟨k0, k1, k2, -⟩ := cells3 hG2
  have hu7 : Upd [A, A + 1] w3 (((w4.setCell ⟨A + 1, 0, none⟩ (.slice fa fn fc)).setCell ⟨A + 1, 1, none⟩ (.slice ra rn rc)).setCell ⟨A + 1, 2, none⟩ (.slice (some ⟨g3, off3, none⟩) 9 cap2)) :=
    (((hu6.mono (S' := [A, A + 1]) (by simp)).setCell (p := ⟨A + 1, 0, none⟩) (by simp) _).setCell (p := ⟨A + 1, 1, none⟩) (by simp) _).setCell (p := ⟨A + 1, 2, none⟩) (by simp) _
  clear a0 a1 a2 y0 y1 y2 c0 c1 c2 z0 z1 z2
  refine bodyPost_ret (v := .agg #[.slice fa fn fc, .slice ra rn rc, .slice (some ⟨g3, off3, none⟩) 9 cap2]) (by simp [results, Try.results64, go_sem, *]) rfl ?_
  refine hR.out _ _ ?_
  exact ⟨_, _, _, rfl, (HP.out.mono (Nat.zero_le _)).upd hu7 (fun x hx hm => by simp [blkL] at hx; simp at hm; omega), HX3.out.trans hu7 (fun x hx => .inr (by simp at hx; omega)), by have := HU0.out.size; omega⟩
end Go.Proofs.Ytabhdigannalgaa

/-
  The contracts of the document's flows (concourseref40): Drop. Condition: rows of some hundred items at most.
-/
import Derived.Test.YtabhdigannalgaaR4Ops
namespace Go.Proofs.Ytabhdigannalgaa
open Go Go.RowKit Go.Maps

theorem rthere25_c {w : World} {Y : Nat → Prop} {fv : Value} {ra : Option Addr} {rn rc : Nat} {r : Rg} (h : RfAt w Y fv (.slice ra rn rc) r) (hok : r.ok) (n : Int) :
    Calls Try.prog 55 #[.agg #[fv, .slice ra rn rc], i64 n] w fun e w' => e = .returned (.bool (r.fl n).isSome) ∧ Upd [] w w' := by
  obtain ⟨cv, h1, -⟩ := h
  have := rthere_c h1 n ra rn rc
  rw [gof_there hok] at this
  exact this

/-- with, on the rows as one notion -/
theorem r4withR_c {w : World} {Y : Nat → Prop} {xv : Value} {its : Nat → List It} (h : Rw40 w Y xv its) (n : Nat) (hn : n < 9) {la : Option Addr} {ln lc : Nat} {l : List It} (hv : Sub w 0 68 5 (.slice la ln lc) l.length (ics l)) (hb : ∀ x ∈ blkL (.slice la ln lc), Y x) (fa ra : Option Addr) (fn fc rn rc : Nat) :
    Calls Try.prog 64 #[.agg #[.slice fa fn fc, .slice ra rn rc, xv], i64 n, .slice la ln lc] w fun e w' =>
      ∃ xa xc, e = .returned (.agg #[.slice fa fn fc, .slice ra rn rc, .slice xa 9 xc]) ∧ Rw40 w' (grow Y w) (.slice xa 9 xc) (updN its n l) ∧ Upd [] w w' := by
  obtain ⟨tv, h1, h2, h3⟩ := h
  refine (r4with_c h1 (tvl_one fun j hj => (h3 j hj).1) n hn fa ra la fn fc rn rc ln lc).mono ?_
  rintro e w' ⟨g, off, cap, rfl, hs, hu, hg⟩
  refine ⟨_, _, rfl, ⟨_, hs, fun x hx => ?_, fun j hj => ?_⟩, hu⟩
  · simp [blkL] at hx; subst hx; exact .inr hg
  · by_cases e : j = n
    · subst e; rw [updN_same, updN_same]; exact ⟨hv.upd0 hu, fun x hx => .inl (hb x hx)⟩
    · rw [updN_other _ _ e, updN_other _ _ e]; exact ⟨(h3 j hj).1.upd0 hu, fun x hx => .inl ((h3 j hj).2 x hx)⟩

section
variable {w : World} {Y : Nat → Prop} {fv rv xv : Value} {r : Rg} {its : Nat → List It}

set_option maxRecDepth 100000 in
set_option maxHeartbeats 2000000 in
theorem r4drop_c (h : R4 w Y fv rv xv r its) (hok : r.ok) (hlk : Linked r its) (n : Int) :
    Calls Try.prog 40 #[.agg #[fv, rv, xv], i64 n] w fun e w' => ∃ fv' rv' xv' v, e = .returned (.tuple #[.agg #[fv', rv', xv'], v]) ∧ R4 w' (grow Y w) fv' rv' xv' (r.drop n) (dropI its n) ∧ Upd [] w w' ∧ Sub w' 0 68 5 v (rowI its n).length (ics (rowI its n)) ∧ ∀ x ∈ blkL v, Y x := by
  obtain ⟨tv, ht1, ht2, ht3⟩ := h.2
  have hrs : Sub w 0 68 5 (rowV tv n) (rowI its n).length (ics (rowI its n)) ∧ ∀ x ∈ blkL (rowV tv n), cutZ Y w x := by
    unfold rowV rowI
    by_cases hn : 0 ≤ n ∧ n ≤ 8
    · rw [if_pos hn, if_pos hn]; exact ⟨(ht3 _ (by omega)).1, fun x hx => ⟨(ht3 _ (by omega)).2 x hx, ((ht3 _ (by omega)).1.lt x hx).2⟩⟩
    · rw [if_neg hn, if_neg hn]; exact ⟨sub_nil _ _ _ _, fun x hx => by simp [blkL] at hx⟩
  obtain ⟨va, vc, hv, -⟩ := hrs.1.form
  rw [hv] at hrs
  have hrow := fun (w' : World) (hu : Upd [] w w') (fa ra : Option Addr) (fn fc rn rc : Nat) => r4row_c (ht1.upd0 hu) n hv fa ra fn fc rn rc
  have HROW := Lib.hid hrow
  have HRS := Lib.hid hrs
  clear hrow hrs ht1 ht2 ht3 hv
  have HOK := Lib.hid hok
  have HLK := Lib.hid hlk
  clear hlk hok
  obtain ⟨fa, fc, ra, rn, rc, xa, xc, rfl, rfl, rfl⟩ := h.shape
  have HF := Lib.hid h.1.cut
  have HX := Lib.hid h.2.cut
  clear h
  refine post fun R hR => ?_
  go_enter Try.func40, Try.ntmps40
  go_upto_region 1 with (fail)
  obtain ⟨A, hA⟩ : ∃ A, A = w.heap.size := ⟨_, rfl⟩
  have hAw : w.heap.size ≤ A := by omega
  have hA1 := heap_alloc_old (heap_alloc_new w (.cells #[.slice fa 9 fc, .slice ra rn rc, .slice xa 9 xc] 81)) (.cells #[.slice none 0 0, .slice none 0 0, .slice none 0 0] 81)
  have hA2 := heap_new2 w (.cells #[.slice fa 9 fc, .slice ra rn rc, .slice xa 9 xc] 81) (.cells #[.slice none 0 0, .slice none 0 0, .slice none 0 0] 81)
  have hu0 := ((Upd.refl [] w).alloc (.cells #[.slice fa 9 fc, .slice ra rn rc, .slice xa 9 xc] 81)).alloc (.cells #[.slice none 0 0, .slice none 0 0, .slice none 0 0] 81)
  rw [← hA] at hA1 hA2 ⊢
  have hYA : ¬ cutZ Y w A := fun q => by have := q.2; omega
  have hYA1 : ¬ cutZ Y w (A + 1) := fun q => by have := q.2; omega
  clear hA
  generalize (w.alloc (.cells #[.slice fa 9 fc, .slice ra rn rc, .slice xa 9 xc] 81)).alloc (.cells #[.slice none 0 0, .slice none 0 0, .slice none 0 0] 81) = w1 at *
  have hs1 := lt_of_heap hA1
  have hs2 := lt_of_heap hA2
  obtain ⟨a0, a1, a2, p0, p1, p2⟩ := cells3 hA1
  obtain ⟨b0, b1, b2, q0, q1, q2⟩ := cells3 hA2
  have HU0 := Lib.hid hu0
  have HGA : Hid (¬ grow (cutZ Y w) w1 A ∧ ¬ grow (cutZ Y w) w1 (A + 1) ∧ ∀ x, grow (cutZ Y w) w1 x → grow Y w x) := Lib.hid ⟨fun q => q.elim hYA (fun q => by omega), fun q => q.elim hYA1 (fun q => by omega), fun x q => q.imp (fun q => q.1) (Nat.le_trans hu0.size)⟩
  clear hu0 hYA hYA1
  have HA12 := Lib.hid (And.intro hA1 hA2)
  go_wp2_with (fail)
  refine (HROW.out _ HU0.out _ _ _ _ _ _).mono ?_
  rintro e v2 ⟨rfl, hu2⟩
  have hth := rthere25_c ((HF.out.upd0 HU0.out).upd0 hu2) HOK.out n
  have HTH := Lib.hid hth
  have hB1 := hu2.keep0 hA1
  have HU2 := Lib.hid hu2
  clear hA1 hA2 hs1 hs2 a0 a1 a2 p0 p1 p2 b0 b1 b2 q0 q1 q2 hu2 hth
  have hs1 := lt_of_heap hB1
  obtain ⟨a0, a1, a2, p0, p1, p2⟩ := cells3 hB1
  go_wp2_with (fail)
  refine HTH.out.mono ?_
  rintro e v3 ⟨rfl, hu3⟩
  have HU13 := Lib.hid (HU2.out.trans' hu3)
  have HU3 := Lib.hid (HU0.out.trans' HU13.out)
  have hw13 := HU13.out.size
  have hC1 := HU13.out.keep0 HA12.out.1
  have hC2 := HU13.out.keep0 HA12.out.2
  clear hB1 hs1 a0 a1 a2 p0 p1 p2 hu3 HU2
  have hs1 := lt_of_heap hC1
  have hs2 := lt_of_heap hC2
  obtain ⟨a0, a1, a2, p0, p1, p2⟩ := cells3 hC1
  obtain ⟨b0, b1, b2, q0, q1, q2⟩ := cells3 hC2
  cases hf : r.fl n with
  | none =>
    simp only [Option.isSome_none]
    have hd : r.drop n = r := by unfold Rg.drop; rw [if_pos hf]
    have hdi : dropI its n = its ∧ rowI its n = [] := by
      unfold dropI rowI
      by_cases hn : 0 ≤ n ∧ n ≤ 8
      · obtain ⟨m, rfl⟩ : ∃ m : Nat, n = m := ⟨n.toNat, by omega⟩
        have h0 := (HLK.out m (by omega)).1 hf
        rw [if_pos hn, if_pos hn, Int.toNat_natCast, h0]
        exact ⟨by rw [← h0, updN_self], rfl⟩
      · rw [if_neg hn, if_neg hn]; exact ⟨rfl, rfl⟩
    have HD := Lib.hid hd
    have HDI := Lib.hid hdi
    clear hd hdi hf
    go_wp2_with (fail)
    have hE2 := hset3_2 (v := .slice xa 9 xc) (hset3_1 (v := .slice ra rn rc) (hset3_0 (v := .slice fa 9 fc) hC2))
    obtain ⟨k0, k1, k2, -⟩ := cells3 hE2
    have hu5 : Upd [A + 1] v3 (((v3.setCell ⟨A + 1, 0, none⟩ (.slice fa 9 fc)).setCell ⟨A + 1, 1, none⟩ (.slice ra rn rc)).setCell ⟨A + 1, 2, none⟩ (.slice xa 9 xc)) := (((Upd.refl _ _).setCell (p := ⟨A + 1, 0, none⟩) (by simp) _).setCell (p := ⟨A + 1, 1, none⟩) (by simp) _).setCell (p := ⟨A + 1, 2, none⟩) (by simp) _
    clear a0 a1 a2 p0 p1 p2 b0 b1 b2 q0 q1 q2
    refine bodyPost_ret (v := .tuple #[.agg #[.slice fa 9 fc, .slice ra rn rc, .slice xa 9 xc], .slice none 0 0]) (by simp [results, Try.results40, go_sem, *]) rfl ?_
    refine hR.out _ _ ?_
    have hno : ∀ x ∈ [A + 1], ¬ grow (cutZ Y w) w1 x := fun x hx => by have := List.mem_singleton.1 hx; subst this; exact HGA.out.2.1
    have hu6 := HU3.out.trans hu5 (fun x hx => .inr (by have := List.mem_singleton.1 hx; omega))
    refine ⟨_, _, _, _, rfl, ?_, hu6, ?_, fun x hx => by simp [blkL] at hx⟩
    · rw [HD.out, HDI.out.1]
      exact ⟨((HF.out.upd0 HU3.out).upd hu5 (fun x hx q => hno x hx (.inl q))).more (fun x q => .inl q.1), ((HX.out.upd0 HU3.out).upd hu5 (fun x hx q => hno x hx (.inl q))).more (fun x q => .inl q.1)⟩
    · rw [HDI.out.2]; exact sub_nil _ _ _ _
  | some f =>
    simp only [Option.isSome_some]
    have hnr := HOK.out.rng n f hf
    obtain ⟨m, rfl⟩ : ∃ m : Nat, n = m := ⟨n.toNat, by omega⟩
    have hm : m < 9 := by omega
    have hdi : dropI its m = updN its m [] := by unfold dropI; rw [if_pos (by omega), Int.toNat_natCast]
    have HDI := Lib.hid hdi
    have hdc := rdrop25_c (HF.out.upd0 HU3.out) HOK.out m
    have HDC := Lib.hid hdc
    clear hdi hf hdc
    generalize r.waits m = wt at *
    go_wp2_with (fail)
    refine HDC.out.mono ?_
    rintro e w2 ⟨fv2, rv2, rfl, hR2, hu2⟩
    replace hR2 : RfAt w2 (grow (cutZ Y w) w1) fv2 rv2 (r.drop m) := hR2.more (fun x q => q.imp id (Nat.le_trans hw13))
    replace hu2 := HU13.out.trans' hu2
    have hA1 := HA12.out.1
    have hA2 := HA12.out.2
    clear hC1 hC2 HA12 HU13 HU3
    obtain ⟨fa2, fc2, ra2, rn2, rc2, rfl, rfl⟩ := hR2.shape2
    have hB1 := hu2.keep0 hA1
    have hB2 := hu2.keep0 hA2
    have HR2 := Lib.hid hR2
    have HU2 := Lib.hid (HU0.out.trans' hu2)
    have HX2 := Lib.hid (((HX.out.upd0 HU0.out).upd0 hu2).more (fun x q => .inl q) : Rw40 w2 (grow (cutZ Y w) w1) (.slice xa 9 xc) its)
    have hw12 := hu2.size
    clear hA1 hA2 hs1 hs2 a0 a1 a2 p0 p1 p2 b0 b1 b2 q0 q1 q2 hR2 hu2
    have hs1 := lt_of_heap hB1
    have hs2 := lt_of_heap hB2
    obtain ⟨a0, a1, a2, p0, p1, p2⟩ := cells3 hB1
    obtain ⟨b0, b1, b2, q0, q1, q2⟩ := cells3 hB2
    go_upto_region 5 with (fail)
    obtain ⟨X, hX⟩ : ∃ X, X = w2.heap.size := ⟨_, rfl⟩
    have hC1 := heap_alloc_old hB1 (.cells #[.slice fa2 9 fc2, .slice ra2 rn2 rc2] 46)
    have hC2 := heap_alloc_old hB2 (.cells #[.slice fa2 9 fc2, .slice ra2 rn2 rc2] 46)
    have hC3 := heap_alloc_new w2 (.cells #[.slice fa2 9 fc2, .slice ra2 rn2 rc2] 46)
    have hux := (Upd.refl [] w2).alloc (.cells #[.slice fa2 9 fc2, .slice ra2 rn2 rc2] 46)
    have hAX : A + 1 < X := by omega
    rw [← hX] at hC3 ⊢
    clear hX hB1 hB2 hs1 hs2 a0 a1 a2 p0 p1 p2 b0 b1 b2 q0 q1 q2
    generalize w2.alloc (.cells #[.slice fa2 9 fc2, .slice ra2 rn2 rc2] 46) = w3 at *
    have hs1 := lt_of_heap hC1
    have hs2 := lt_of_heap hC2
    have hs3 := lt_of_heap hC3
    obtain ⟨a0, a1, a2, p0, p1, p2⟩ := cells3 hC1
    obtain ⟨b0, b1, b2, q0, q1, q2⟩ := cells3 hC2
    obtain ⟨c0, c1, -⟩ := cells2 hC3
    have HUX := Lib.hid hux
    clear hux
    go_upto_region 6 with (fail)
    have hD1 := hset3_1 (v := .slice ra2 rn2 rc2) (hset3_0 (v := .slice fa2 9 fc2) hC1)
    have hD2 := heap_setCell_ne (c := A) (heap_setCell_ne (c := A) hC2 (by omega) 0 (.slice fa2 9 fc2)) (by omega) 1 (.slice ra2 rn2 rc2)
    have hu4 : Upd [A] w2 ((w3.setCell ⟨A, 0, none⟩ (.slice fa2 9 fc2)).setCell ⟨A, 1, none⟩ (.slice ra2 rn2 rc2)) := (((HUX.out.mono (S' := [A]) (by simp)).setCell (p := ⟨A, 0, none⟩) (by simp) _).setCell (p := ⟨A, 1, none⟩) (by simp) _)
    clear hC1 hC2 hC3 hs1 hs2 hs3 a0 a1 a2 p0 p1 p2 b0 b1 b2 q0 q1 q2 c0 c1 HUX
    generalize (w3.setCell ⟨A, 0, none⟩ (.slice fa2 9 fc2)).setCell ⟨A, 1, none⟩ (.slice ra2 rn2 rc2) = w4 at *
    have HR4 := Lib.hid (HR2.out.upd hu4 (fun x hx => by have := List.mem_singleton.1 hx; subst this; exact HGA.out.1))
    have HX4 := Lib.hid (HX2.out.upd hu4 (fun x hx => by have := List.mem_singleton.1 hx; subst this; exact HGA.out.1))
    have HU4 := Lib.hid (HU2.out.trans hu4 (fun x hx => .inr (by have := List.mem_singleton.1 hx; omega)))
    clear HR2 HX2 HU2 hu4
    have hs1 := lt_of_heap hD1
    have hs2 := lt_of_heap hD2
    obtain ⟨a0, a1, a2, p0, p1, p2⟩ := cells3 hD1
    obtain ⟨b0, b1, b2, q0, q1, q2⟩ := cells3 hD2
    have hwi := r4withR_c HX4.out m hm (sub_nil w4 0 68 5) (l := []) (fun x hx => by simp [blkL] at hx) fa2 ra2 9 fc2 rn2 rc2
    have HWI := Lib.hid hwi
    clear hwi
    have hm8 : (m : Int) < 9 := by omega
    go_wp2_with (fail)
    refine HWI.out.mono ?_
    rintro e w5 ⟨xa2, xc2, rfl, hX5, hu5'⟩
    have hE1 := hu5'.keep0 hD2
    have HX5 := Lib.hid hX5
    have HR5 := Lib.hid (HR4.out.upd0 hu5')
    have HU5 := Lib.hid (HU4.out.trans' hu5')
    have hw45 := hu5'.size
    have hw04 := HU4.out.size
    have hs4 := hs2
    clear hD1 hD2 hs1 hs2 a0 a1 a2 p0 p1 p2 b0 b1 b2 q0 q1 q2 HR4 HX4 HU4 hX5 hu5' HWI
    have hs2 := lt_of_heap hE1
    obtain ⟨b0, b1, b2, q0, q1, q2⟩ := cells3 hE1
    have a0 := 0
    have a1 := 0
    have a2 := 0
    have p0 := 0
    have p1 := 0
    have p2 := 0
    go_wp2_with (fail)
    have hE2 := hset3_2 (v := .slice xa2 9 xc2) (hset3_1 (v := .slice ra2 rn2 rc2) (hset3_0 (v := .slice fa2 9 fc2) hE1))
    obtain ⟨k0, k1, k2, -⟩ := cells3 hE2
    have hu5 : Upd [A + 1] w5 (((w5.setCell ⟨A + 1, 0, none⟩ (.slice fa2 9 fc2)).setCell ⟨A + 1, 1, none⟩ (.slice ra2 rn2 rc2)).setCell ⟨A + 1, 2, none⟩ (.slice xa2 9 xc2)) := (((Upd.refl _ _).setCell (p := ⟨A + 1, 0, none⟩) (by simp) _).setCell (p := ⟨A + 1, 1, none⟩) (by simp) _).setCell (p := ⟨A + 1, 2, none⟩) (by simp) _
    clear a0 a1 a2 p0 p1 p2 b0 b1 b2 q0 q1 q2
    refine bodyPost_ret (v := .tuple #[.agg #[.slice fa2 9 fc2, .slice ra2 rn2 rc2, .slice xa2 9 xc2], .slice va (rowI its m).length vc]) (by simp [results, Try.results40, go_sem, *]) rfl ?_
    refine hR.out _ _ ?_
    have hno : ∀ x ∈ [A + 1], ¬ grow (cutZ Y w) w1 x := fun x hx => by have := List.mem_singleton.1 hx; subst this; exact HGA.out.2.1
    have hno2 : ∀ x ∈ [A + 1], ¬ grow (grow (cutZ Y w) w1) w4 x := fun x hx q => q.elim (hno x hx) (fun q => by have := List.mem_singleton.1 hx; omega)
    have hu6 := HU5.out.trans hu5 (fun x hx => .inr (by have := List.mem_singleton.1 hx; omega))
    refine ⟨_, _, _, _, rfl, ⟨(HR5.out.upd hu5 hno).more HGA.out.2.2, ?_⟩, hu6, HRS.out.1.upd hu6 (by simp), fun x hx => (HRS.out.2 x hx).1⟩
    rw [HDI.out]
    exact (HX5.out.upd hu5 hno2).more (fun x q => q.elim (HGA.out.2.2 x) (fun q => .inr (Nat.le_trans hw04 q)))
end
end Go.Proofs.Ytabhdigannalgaa

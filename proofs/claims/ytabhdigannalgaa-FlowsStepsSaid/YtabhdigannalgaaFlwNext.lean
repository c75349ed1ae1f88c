/-
  The contracts of flows' New and Next. Condition: they are flows that their own functions made, by some hundred steps at most.
-/
import Derived.Test.YtabhdigannalgaaFlwPush
import Derived.Deep.DeepCutAuto
import Derived.Deep.CutBlock
namespace Go.Proofs.Ytabhdigannalgaa
open Go Go.RowKit Go.Maps

theorem fnew_c (w : World) : Calls Try.prog 37 #[] w fun e w' => ∃ b, e = .returned (.pointer (some ⟨b, 0, none⟩)) ∧ Upd [] w w' ∧ FwAt w' (ZB w.heap.size) b 0 Rg.new (fun _ => []) := by
  refine post fun R hR => ?_
  go_enter Try.func37, Try.ntmps37
  go_wp2_with fail
  exact hR.out _ _ ⟨_, rfl, (Upd.refl _ _).alloc _, fwAt_new (heap_alloc_new _ _) (Nat.le_refl _)⟩
theorem FwAt.zb' {w w0 : World} {B b K : Nat} {r : Rg} {its : Nat → List It} (h : FwAt w (grow (ZB B) w0) b K r its) (hb : B ≤ w0.heap.size) : FwAt w (ZB B) b K r its :=
  h.more (fun _ q => q.elim id (Nat.le_trans hb)) (Nat.le_refl _)

theorem turn_not {r : Rg} (h : r.ok) (e : r.turn.ok = false) : r.turn = ⟨r, 0, 0, false⟩ := by
  rw [turn_ok h] at e
  have : r.row = [] := by
    cases hr : r.row with
    | nil => rfl
    | cons a t => rw [hr] at e; simp at e
  exact turn_empty this
theorem turn_link {r : Rg} {its : Nat → List It} (h : Linked r its) (hok : r.ok) (e : r.turn.ok = true) :
    ∃ (m : Nat) (x : It) (l : List It), r.turn.n = (m : Int) ∧ m < 9 ∧ its m = x :: l ∧ r.turn.c = x.cost ∧ Linked r.turn.r (updN its m l) := by
  obtain ⟨h1, h2⟩ := turn_in hok
  obtain ⟨⟨cs, h3, h4⟩, h5⟩ := turn_serves hok e
  obtain ⟨m, hm⟩ : ∃ m : Nat, r.turn.n = m := ⟨r.turn.n.toNat, by omega⟩
  rw [hm] at h3 h4 h5
  have hm9 : m < 9 := by omega
  unfold Rg.view at h3 h4
  obtain ⟨f, hf, hf2⟩ := Option.map_eq_some_iff.1 h3
  obtain ⟨g, hg, hg2⟩ := Option.map_eq_some_iff.1 h4
  injection hf2 with hf2 hf3
  injection hg2 with hg2 hg3
  have hl := (h m hm9).2 f hf
  rw [hf2] at hl
  cases hi : its m with
  | nil => rw [hi] at hl; cases hl
  | cons x l =>
    rw [hi] at hl
    injection hl with hl1 hl2
    refine ⟨m, x, l, hm, hm9, hi, hl1, fun j hj => ?_⟩
    by_cases ej : j = m
    · subst ej
      rw [updN_same, hg]
      refine ⟨fun q => (by cases q), fun g' q => ?_⟩
      injection q with q; subst q
      rw [hg2, hl2]
    · rw [updN_other _ _ ej]
      have := h5 j (by omega)
      unfold Rg.view at this
      obtain ⟨k1, k2⟩ := h j hj
      refine ⟨fun q => ?_, fun g' q => ?_⟩
      · rw [q] at this
        apply k1
        cases hq : r.fl j with
        | none => rfl
        | some f => rw [hq] at this; cases this
      · rw [q] at this
        cases hq : r.fl j with
        | none => rw [hq] at this; cases this
        | some f' =>
          rw [hq] at this
          injection this with this
          injection this with this _
          rw [this]; exact k2 f' hq
def nextX (r : Rg) (its : Nat → List It) : It := if r.turn.ok = true then ((its r.turn.n.toNat)[0]?).getD It.zero else It.zero
def nextI (r : Rg) (its : Nat → List It) : Nat → List It := if r.turn.ok = true then updN its r.turn.n.toNat (its r.turn.n.toNat).tail else its

theorem sub_tail5 {w : World} {e : TypeId} {g off n cap : Nat} {x : It} {l : List It} (h : Sub w 0 e 5 (.slice (some ⟨g, off, none⟩) (n + 1) cap) (n + 1) (ics (x :: l))) : Sub w 0 e 5 (.slice (some ⟨g, off + 5, none⟩) n (cap - 1)) n (ics l) := by
  obtain ⟨hl, h⟩ := h
  rcases h with ⟨h, _⟩ | ⟨g', off', cap', cs, he, h2, h3, h4, h5, h6, h7⟩
  · cases h
  · injection he with e1 e2 e3
    injection e1 with e1
    injection e1 with e4 e5
    subst e4; subst e5; subst e3
    have hx : ics (x :: l) = x.cells ++ ics l := rfl
    rw [hx] at hl
    have h5l : (x.cells ++ ics l).length = 5 + (ics l).length := by rw [List.length_append]; rfl
    refine ⟨by omega, .inr ⟨g, off + 5, cap - 1, cs, rfl, h2, h3, by omega, by omega, by omega, fun j hj => ?_⟩⟩
    have := h7 (j + 5) (by omega)
    rw [show off + 5 + j = off + (j + 5) by omega, this, hx, List.getElem?_append_right (by show 5 ≤ _; omega)]
    congr 1
theorem sub_none5 {w : World} {e : TypeId} {g off n cap : Nat} {xs : List Value} (h : Sub w 0 e 5 (.slice (some ⟨g, off, none⟩) n cap) n xs) : Sub w 0 e 5 (.slice (some ⟨g, off, none⟩) 0 0) 0 [] := by
  obtain ⟨hl, h⟩ := h
  rcases h with ⟨h, _⟩ | ⟨g', off', cap', cs, he, h2, h3, h4, h5, h6, h7⟩
  · cases h
  · injection he with e1 e2 e3
    injection e1 with e1
    injection e1 with e4 e5
    subst e4; subst e5; subst e3
    exact ⟨rfl, .inr ⟨g, off, 0, cs, rfl, h2, h3, Nat.le_refl _, by omega, by omega, fun j hj => by omega⟩⟩

section
variable {w : World} {Z : Nat → Prop} {b K : Nat} {r : Rg} {its : Nat → List It}

set_option maxRecDepth 100000 in
set_option maxHeartbeats 4000000 in
theorem fnext_c (h : FwAt w Z b K r its) (hK : K ≤ 900) :
    Calls Try.prog 36 #[.pointer (some ⟨b, 0, none⟩)] w fun e w' => e = .returned (.tuple #[i64 r.turn.n, iv (nextX r its), .bool r.turn.ok]) ∧ UpdP Z w w' ∧ FwAt w' (grow Z w) b (K + 1) r.turn.r (nextI r its) := by
  have hok := h.ok
  obtain ⟨hlk, Zr, tv, hX⟩ := h
  have hA := heap_alloc_new w (.cells #[i64 0, i64 0, i64 0, .string ⟨#[]⟩, i64 0] 74)
  have hu := (Upd.refl [] w).alloc (.cells #[i64 0, i64 0, i64 0, .string ⟨#[]⟩, i64 0] 74)
  have hX1 := (hX.cut).upd (w' := w.alloc (.cells #[i64 0, i64 0, i64 0, .string ⟨#[]⟩, i64 0] 74)) hu (by simp)
  obtain ⟨A, hAe⟩ : ∃ A, A = w.heap.size := ⟨_, rfl⟩
  rw [← hAe] at hA
  have hAZ : ¬ cutZ Zr w A := fun q => by have := q.2; omega
  have hAZ2 : ¬ cutZ Z w A := fun q => by have := q.2; omega
  have hcu : ∀ y, grow (cutZ Z w) (w.alloc (.cells #[i64 0, i64 0, i64 0, .string ⟨#[]⟩, i64 0] 74)) y → grow Z w y := fun y q => q.imp (fun q => q.1) (fun q => Nat.le_trans hu.size q)
  have HCU := Lib.hid hcu
  have HX1 := Lib.hid hX1
  have HA := Lib.hid hA
  have HU := Lib.hid hu
  have HZR := Lib.hid hX.zr
  have HLEN := Lib.hid hX.len
  have HAW := Lib.hid (Nat.le_of_eq hAe.symm)
  have HLK := Lib.hid hlk
  have HAL : Hid (A < (w.alloc (.cells #[i64 0, i64 0, i64 0, .string ⟨#[]⟩, i64 0] 74)).heap.size) := Lib.hid (lt_of_heap hA)
  clear hX hlk hA hu hX1 hcu
  refine post fun R hR => ?_
  go_enter Try.func36, Try.ntmps36
  go_upto_region 3 with (fail)
  rw [← hAe]
  have hA := HA.out
  have hX1 := HX1.out
  have hu := HU.out
  have HCU2 := HCU
  clear hAe HA HX1 HU HCU
  generalize w.alloc (.cells #[i64 0, i64 0, i64 0, .string ⟨#[]⟩, i64 0] 74) = w1 at *
  have htc := ring_turn_c hX1.ring hK
  have HTC := Lib.hid htc
  clear htc
  cases ht : r.turn.ok with
  | false =>
    have htn := turn_not hok ht
    have hxx : nextX r its = It.zero := by unfold nextX; rw [if_neg (by rw [ht]; decide)]
    have hii : nextI r its = its := by unfold nextI; rw [if_neg (by rw [ht]; decide)]
    have hlk2 : Linked r.turn.r its := by rw [htn]; exact HLK.out
    have hn0 : r.turn.n = 0 := by rw [htn]
    have HN0 := Lib.hid hn0
    have HXX := Lib.hid hxx
    have HII := Lib.hid hii
    have HLK2 := Lib.hid hlk2
    have HT := Lib.hid ht
    rw [ht, hn0] at HTC
    clear htn hxx hii hlk2 ht hn0
    have hlk := HLK
    go_wp2_with (fail)
    refine HTC.out.mono ?_
    rintro e w2 ⟨rfl, hp, hr⟩
    have hA2 := hp.keep hA hAZ
    have HX2 := Lib.hid (hX1.ringed hp hr (Nat.le_succ K))
    have HP2 := Lib.hid ((UpdP.of0 hu).trans hp (fun y q => .inl (HZR.out y q.1)) : UpdP Z w w2)
    clear hA hX1 hu hp hr HTC
    have t1 := lt_of_heap hA2
    obtain ⟨a0, a1, a2, a3, a4, y0, y1, y2, y3, y4⟩ := cells5 hA2
    go_wp2_with (fail)
    have hK2 := hset5_4 (v := i64 0) (hset5_3 (v := .string ⟨#[]⟩) (hset5_2 (v := i64 0) (hset5_1 (v := i64 0) (hset5_0 (v := i64 0) hA2))))
    obtain ⟨k0, k1, k2, k3, k4, -⟩ := cells5 hK2
    have hu5 : Upd [A] w2 (((((w2.setCell ⟨A, 0, none⟩ (i64 0)).setCell ⟨A, 1, none⟩ (i64 0)).setCell ⟨A, 2, none⟩ (i64 0)).setCell ⟨A, 3, none⟩ (.string ⟨#[]⟩)).setCell ⟨A, 4, none⟩ (i64 0)) := (((((Upd.refl _ _).setCell (by simp) _).setCell (by simp) _).setCell (by simp) _).setCell (by simp) _).setCell (by simp) _
    clear a0 a1 a2 a3 a4 y0 y1 y2 y3 y4
    refine bodyPost_ret (v := .tuple #[i64 0, .agg #[i64 0, i64 0, i64 0, .string ⟨#[]⟩, i64 0], .bool false]) (by simp [results, Try.results36, go_sem, *]) rfl ?_
    refine hR.out _ _ ?_
    have hZ2A : ¬ grow (cutZ Z w) w1 A := fun q => q.elim hAZ2 (fun q => by have := HAL.out; omega)
    refine ⟨by rw [HN0.out, HXX.out, HT.out]; rfl, HP2.out.trans (Z' := fun x => x = A) (UpdP.of hu5 (fun x hx => .inl (List.mem_singleton.1 hx))) (fun x hx => .inr (by have := HAW.out; omega)), ?_⟩
    rw [HII.out]
    exact ⟨HLK2.out, _, _, (HX2.out.upd hu5 (fun x hx => by have := List.mem_singleton.1 hx; subst this; exact hZ2A)).mono HCU2.out (Nat.le_refl _)⟩
  | true =>
    obtain ⟨m, x, l, htn, hm, hil, htcst, hlk2⟩ := turn_link HLK.out hok ht
    have hxx : nextX r its = x := by unfold nextX; rw [if_pos ht, htn]; show ((its m)[0]?).getD _ = _; rw [hil]; rfl
    have hii : nextI r its = updN its m l := by unfold nextI; rw [if_pos ht, htn]; show updN its m (its m).tail = _; rw [hil]; rfl
    have HXX := Lib.hid hxx
    have HII := Lib.hid hii
    have HLK2 := Lib.hid hlk2
    have HT := Lib.hid ht
    have HN := Lib.hid htn
    have HIL := Lib.hid hil
    have hm9 : (m : Int) < 9 := by omega
    rw [ht, htn] at HTC
    have hlm := HLEN.out m hm
    rw [hil] at hlm
    clear htn hxx hii hlk2 ht hil htcst
    go_wp2_with (fail)
    refine HTC.out.mono ?_
    rintro e w2 ⟨rfl, hp, hr⟩
    have hA2 := hp.keep hA hAZ
    have HX2 := Lib.hid (hX1.ringed hp hr (Nat.le_succ K))
    have HP2 := Lib.hid ((UpdP.of0 hu).trans hp (fun y q => .inl (HZR.out y q.1)) : UpdP Z w w2)
    have hs12 := hp.size
    clear hA hX1 hu hp hr HTC
    have hrow := HX2.out.row m hm
    rw [HIL.out] at hrow
    obtain ⟨ao, cap, hv, hcap, hrw⟩ := hrow.form
    obtain ⟨g, off, rfl, -, hgl, -⟩ := hrw (by simp)
    rw [hv] at hrow
    obtain ⟨c0, c1, c2, c3, c4⟩ := its_get hrow (k := 0) (by simp) rfl
    simp only [Nat.zero_mul, Nat.add_zero, List.getElem_cons_zero] at c0 c1 c2 c3 c4
    obtain ⟨b0, bf⟩ := HX2.out.ring.cells m
    rw [tvl_get tv hm, hv] at b0
    simp only [List.length_cons] at b0 hcap hrow hv
    have HROW := Lib.hid hrow
    have HV := Lib.hid hv
    clear hrw hv hrow
    go_upto_region 7 with (fail)
    obtain ⟨X, hX⟩ : ∃ X, X = w2.heap.size := ⟨_, rfl⟩
    have hB3 := heap_alloc_new w2 (.cells #[i64 x.c, i64 x.k, i64 x.f, .string x.b, i64 x.a] 74)
    have hA3 := heap_alloc_old hA2 (.cells #[i64 x.c, i64 x.k, i64 x.f, .string x.b, i64 x.a] 74)
    have hux := (Upd.refl [] w2).alloc (.cells #[i64 x.c, i64 x.k, i64 x.f, .string x.b, i64 x.a] 74)
    rw [← hX] at hB3 ⊢
    have hAX : A < X := by rw [hX]; exact lt_of_heap hA2
    have hbX : b < X := by rw [hX]; exact HX2.out.ring.lt
    have hcz : ∀ y, cutZ (grow (cutZ Z w) w1) w2 y → grow (cutZ Z w) w1 y := fun y q => q.1
    have hXZ : ¬ cutZ (grow (cutZ Z w) w1) w2 X := fun q => by have := q.2; omega
    have hAb : A ≠ b := fun e => by
      have := (HX2.out.zb)
      rw [← e] at this
      exact this.elim hAZ2 (fun q => by have := HAL.out; omega)
    have HX3 := Lib.hid ((HX2.out.cut).upd hux (by simp))
    have HP3 := Lib.hid (HP2.out.trans (UpdP.of0 (Z := Z) hux) (fun y q => .inl q))
    have HROW3 := Lib.hid (HROW.out.upd0 hux)
    clear hX hux hA2 c0 c1 c2 c3 c4 b0 bf HX2 HP2 HROW
    generalize w2.alloc (.cells #[i64 x.c, i64 x.k, i64 x.f, .string x.b, i64 x.a] 74) = w3 at *
    have tb := HX3.out.ring.lt
    have tX := lt_of_heap hB3
    obtain ⟨b0, bf⟩ := HX3.out.ring.cells m
    rw [tvl_get tv hm, HV.out] at b0
    obtain ⟨x0, x1, x2, x3, x4, -⟩ := cells5 hB3
    by_cases hcc : cap = 1
    · subst hcc
      obtain rfl : l = [] := List.eq_nil_of_length_eq_zero (by omega)
      have hsv : Sub w3 0 74 5 (.slice (some ⟨g, off, none⟩) ([] : List It).length 0) ([] : List It).length (ics []) := sub_none5 HROW3.out
      have hfin := HX3.out.rowed hm (Upd.refl [] w3) (fun y hy => by cases hy) (v := .slice (some ⟨g, off, none⟩) (([] : List It)).length (0)) (l := ([] : List It)) (K' := K + 1) hsv (fun y hy => .inl (by rw [HV.out]; simpa [blkL] using hy)) (Nat.le_refl _) (by simp only [List.length_cons] at hlm; first | omega | (simp; try omega))
      have HFIN := Lib.hid hfin
      clear hfin hsv
      go_wp2_with (fail)
      go_region
      have hX4 := heap_drew (heap_setCell_ne (c := b) hB3 (by omega) (2 + m) (.slice (some ⟨g, off, none⟩) (([] : List It)).length (0)))
      have hA4 := heap_drew (heap_setCell_ne (c := b) hA3 hAb (2 + m) (.slice (some ⟨g, off, none⟩) (([] : List It)).length (0)))
      have HX4 := Lib.hid (HFIN.out.1.upd ((Upd.refl [] _).drew) (by simp))
      have HP4 := Lib.hid ((HP3.out.trans HFIN.out.2 (fun y q => (HCU2.out y (hcz y q)))).trans (UpdP.of0 (Z := Z) ((Upd.refl [] _).drew)) (fun y q => .inl q))
      have hsz : w3.heap.size ≤ ((w3.setCell ⟨b, 2 + m, none⟩ (.slice (some ⟨g, off, none⟩) (([] : List It)).length (0))).drew).heap.size := ((Upd.refl [b] w3).setCell (p := ⟨b, 2 + m, none⟩) (by simp) (.slice (some ⟨g, off, none⟩) (([] : List It)).length (0))).drew.size
      have hAw3 := lt_of_heap hA3
      have HHN : Hid (∀ y, grow (cutZ (grow (cutZ Z w) w1) w2) w3 y → grow Z w y) := Lib.hid (fun y q => q.elim (fun q => HCU2.out y (hcz y q)) (fun q => .inr (by have := HAW.out; have := HAL.out; omega)))
      have hAN : ¬ grow (cutZ (grow (cutZ Z w) w1) w2) w3 A := fun q => q.elim (fun q => (hcz A q).elim hAZ2 (fun q => by have := HAL.out; omega)) (fun q => by omega)
      clear hB3 hA3 b0 bf x0 x1 x2 x3 x4 tb tX HX3 HP3 HFIN HROW3
      generalize (w3.setCell ⟨b, 2 + m, none⟩ (.slice (some ⟨g, off, none⟩) (([] : List It)).length (0))).drew = w4 at *
      obtain ⟨x0, x1, x2, x3, x4, -⟩ := cells5 hX4
      obtain ⟨a0, a1, a2, a3, a4, y0, y1, y2, y3, y4⟩ := cells5 hA4
      have tA := lt_of_heap hA4
      have tX := lt_of_heap hX4
      go_wp2_with (fail)
      go_region
      have hK2 := heap_drew (hset5_4 (v := i64 x.a) (hset5_3 (v := .string x.b) (hset5_2 (v := i64 x.f) (hset5_1 (v := i64 x.k) (hset5_0 (v := i64 x.c) hA4)))))
      have hu5 : Upd [A] w4 (((((w4.setCell ⟨A, 0, none⟩ (i64 x.c)).setCell ⟨A, 1, none⟩ (i64 x.k)).setCell ⟨A, 2, none⟩ (i64 x.f)).setCell ⟨A, 3, none⟩ (.string x.b)).setCell ⟨A, 4, none⟩ (i64 x.a)).drew := ((((((Upd.refl _ _).setCell (by simp) _).setCell (by simp) _).setCell (by simp) _).setCell (by simp) _).setCell (by simp) _).drew
      clear a0 a1 a2 a3 a4 y0 y1 y2 y3 y4 x0 x1 x2 x3 x4 tA tX hX4 hA4
      generalize (((((w4.setCell ⟨A, 0, none⟩ (i64 x.c)).setCell ⟨A, 1, none⟩ (i64 x.k)).setCell ⟨A, 2, none⟩ (i64 x.f)).setCell ⟨A, 3, none⟩ (.string x.b)).setCell ⟨A, 4, none⟩ (i64 x.a)).drew = w5 at *
      obtain ⟨k0, k1, k2, k3, k4, -⟩ := cells5 hK2
      go_wp2_with (fail)
      refine bodyPost_ret (v := .tuple #[i64 m, iv x, .bool true]) (by simp [results, Try.results36, go_sem, *]) rfl ?_
      refine hR.out _ _ ?_
      refine ⟨by rw [HN.out, HXX.out, HT.out], HP4.out.trans (Z' := fun x => x = A) (UpdP.of hu5 (fun x hx => .inl (List.mem_singleton.1 hx))) (fun x hx => .inr (by have := HAW.out; omega)), ?_⟩
      rw [HII.out]
      exact ⟨HLK2.out, _, _, (HX4.out.upd hu5 (fun x hx => by have := List.mem_singleton.1 hx; subst this; exact hAN)).mono HHN.out (Nat.le_refl _)⟩
    · have hsv : Sub w3 0 74 5 (.slice (some ⟨g, off + 5, none⟩) l.length (cap - 1)) l.length (ics l) := sub_tail5 HROW3.out
      have hfin := HX3.out.rowed hm (Upd.refl [] w3) (fun y hy => by cases hy) (v := .slice (some ⟨g, (off + 5), none⟩) (l).length ((cap - 1))) (l := l) (K' := K + 1) hsv (fun y hy => .inl (by rw [HV.out]; simpa [blkL] using hy)) (Nat.le_refl _) (by simp only [List.length_cons] at hlm; first | omega | (simp; try omega))
      have HFIN := Lib.hid hfin
      clear hfin hsv
      go_wp2_with (fail)
      go_region
      have hX4 := heap_drew (heap_setCell_ne (c := b) hB3 (by omega) (2 + m) (.slice (some ⟨g, (off + 5), none⟩) (l).length ((cap - 1))))
      have hA4 := heap_drew (heap_setCell_ne (c := b) hA3 hAb (2 + m) (.slice (some ⟨g, (off + 5), none⟩) (l).length ((cap - 1))))
      have HX4 := Lib.hid (HFIN.out.1.upd ((Upd.refl [] _).drew) (by simp))
      have HP4 := Lib.hid ((HP3.out.trans HFIN.out.2 (fun y q => (HCU2.out y (hcz y q)))).trans (UpdP.of0 (Z := Z) ((Upd.refl [] _).drew)) (fun y q => .inl q))
      have hsz : w3.heap.size ≤ ((w3.setCell ⟨b, 2 + m, none⟩ (.slice (some ⟨g, (off + 5), none⟩) (l).length ((cap - 1)))).drew).heap.size := ((Upd.refl [b] w3).setCell (p := ⟨b, 2 + m, none⟩) (by simp) (.slice (some ⟨g, (off + 5), none⟩) (l).length ((cap - 1)))).drew.size
      have hAw3 := lt_of_heap hA3
      have HHN : Hid (∀ y, grow (cutZ (grow (cutZ Z w) w1) w2) w3 y → grow Z w y) := Lib.hid (fun y q => q.elim (fun q => HCU2.out y (hcz y q)) (fun q => .inr (by have := HAW.out; have := HAL.out; omega)))
      have hAN : ¬ grow (cutZ (grow (cutZ Z w) w1) w2) w3 A := fun q => q.elim (fun q => (hcz A q).elim hAZ2 (fun q => by have := HAL.out; omega)) (fun q => by omega)
      clear hB3 hA3 b0 bf x0 x1 x2 x3 x4 tb tX HX3 HP3 HFIN HROW3
      generalize (w3.setCell ⟨b, 2 + m, none⟩ (.slice (some ⟨g, (off + 5), none⟩) (l).length ((cap - 1)))).drew = w4 at *
      obtain ⟨x0, x1, x2, x3, x4, -⟩ := cells5 hX4
      obtain ⟨a0, a1, a2, a3, a4, y0, y1, y2, y3, y4⟩ := cells5 hA4
      have tA := lt_of_heap hA4
      have tX := lt_of_heap hX4
      go_wp2_with (fail)
      go_region
      have hK2 := heap_drew (hset5_4 (v := i64 x.a) (hset5_3 (v := .string x.b) (hset5_2 (v := i64 x.f) (hset5_1 (v := i64 x.k) (hset5_0 (v := i64 x.c) hA4)))))
      have hu5 : Upd [A] w4 (((((w4.setCell ⟨A, 0, none⟩ (i64 x.c)).setCell ⟨A, 1, none⟩ (i64 x.k)).setCell ⟨A, 2, none⟩ (i64 x.f)).setCell ⟨A, 3, none⟩ (.string x.b)).setCell ⟨A, 4, none⟩ (i64 x.a)).drew := ((((((Upd.refl _ _).setCell (by simp) _).setCell (by simp) _).setCell (by simp) _).setCell (by simp) _).setCell (by simp) _).drew
      clear a0 a1 a2 a3 a4 y0 y1 y2 y3 y4 x0 x1 x2 x3 x4 tA tX hX4 hA4
      generalize (((((w4.setCell ⟨A, 0, none⟩ (i64 x.c)).setCell ⟨A, 1, none⟩ (i64 x.k)).setCell ⟨A, 2, none⟩ (i64 x.f)).setCell ⟨A, 3, none⟩ (.string x.b)).setCell ⟨A, 4, none⟩ (i64 x.a)).drew = w5 at *
      obtain ⟨k0, k1, k2, k3, k4, -⟩ := cells5 hK2
      go_wp2_with (fail)
      refine bodyPost_ret (v := .tuple #[i64 m, iv x, .bool true]) (by simp [results, Try.results36, go_sem, *]) rfl ?_
      refine hR.out _ _ ?_
      refine ⟨by rw [HN.out, HXX.out, HT.out], HP4.out.trans (Z' := fun x => x = A) (UpdP.of hu5 (fun x hx => .inl (List.mem_singleton.1 hx))) (fun x hx => .inr (by have := HAW.out; omega)), ?_⟩
      rw [HII.out]
      exact ⟨HLK2.out, _, _, (HX4.out.upd hu5 (fun x hx => by have := List.mem_singleton.1 hx; subst this; exact hAN)).mono HHN.out (Nat.le_refl _)⟩
end
end Go.Proofs.Ytabhdigannalgaa

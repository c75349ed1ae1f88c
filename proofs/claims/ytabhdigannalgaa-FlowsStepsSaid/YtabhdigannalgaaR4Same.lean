/-
  Chapter 40's own small loops beside the document's flows: alike, same. Condition: flows that their own functions made, by some hundred steps at most.
-/
import Derived.Test.YtabhdigannalgaaR4Next
import Derived.Test.YtabhdigannalgaaFlwStp
namespace Go.Proofs.Ytabhdigannalgaa
open Go Go.RowKit Go.Maps

set_option maxRecDepth 100000 in
set_option maxHeartbeats 4000000 in
theorem falike_c {w : World} {u v : Value} {base1 base2 : Nat} (l : List It) (h1 : Sub w base1 74 5 u l.length (ics l)) (h2 : Sub w base2 68 5 v l.length (ics l)) (hlen : l.length ≤ 1000) :
    Calls Try.prog 41 #[u, v] w fun e w' => e = .returned (.bool true) ∧ Upd [] w w' := by
  obtain ⟨ao, cap, rfl, hc1, hr1⟩ := h1.form
  obtain ⟨bo, cap2, rfl, hc2, hr2⟩ := h2.form
  have HR1 := Lib.hid hr1
  have HR2 := Lib.hid hr2
  have H1 := Lib.hid (h1.mono (Nat.zero_le _))
  have H2 := Lib.hid (h2.mono (Nat.zero_le _))
  clear hr1 hr2 h1 h2
  refine post fun R hR => ?_
  go_enter Try.func41, Try.ntmps41
  go_wp2_with (fail)
  go_loopw [5] (fun i wr => ∃ (k : Nat), i = i64 k ∧ k ≤ l.length ∧ Upd [] w wr) (fun i _ => l.length - (intOf i).toNat)
  case atStart => exact ⟨0, rfl, Nat.zero_le _, Upd.refl _ _⟩
  case round =>
    obtain ⟨k, rfl, hk, hu⟩ := hrel
    by_cases hlt : k < l.length
    · obtain ⟨g, off, rfl, hg1, hg2, -⟩ := HR1.out (by omega)
      obtain ⟨g', off', rfl, hg1', hg2', -⟩ := HR2.out (by omega)
      have hkeep : ∀ w', Upd [] wr w' → w'.cell? ⟨g, off + k * 5, none⟩ = some (i64 l[k].c) ∧ w'.cell? ⟨g, off + k * 5 + 1, none⟩ = some (i64 l[k].k) ∧ w'.cell? ⟨g, off + k * 5 + 2, none⟩ = some (i64 l[k].f) ∧ w'.cell? ⟨g, off + k * 5 + 3, none⟩ = some (.string l[k].b) ∧ w'.cell? ⟨g, off + k * 5 + 4, none⟩ = some (i64 l[k].a) ∧
          w'.cell? ⟨g', off' + k * 5, none⟩ = some (i64 l[k].c) ∧ w'.cell? ⟨g', off' + k * 5 + 1, none⟩ = some (i64 l[k].k) ∧ w'.cell? ⟨g', off' + k * 5 + 2, none⟩ = some (i64 l[k].f) ∧ w'.cell? ⟨g', off' + k * 5 + 3, none⟩ = some (.string l[k].b) ∧ w'.cell? ⟨g', off' + k * 5 + 4, none⟩ = some (i64 l[k].a) := fun w' hu2 => by
        obtain ⟨c0, c1, c2, c3, c4⟩ := its_get (H1.out.upd0 (hu.trans' hu2)) hlt rfl
        obtain ⟨d0, d1, d2, d3, d4⟩ := its_get (H2.out.upd0 (hu.trans' hu2)) hlt rfl
        exact ⟨c0, c1, c2, c3, c4, d0, d1, d2, d3, d4⟩
      have HKEEP := Lib.hid hkeep
      have ho := fun w' => ours_c l[k] w'
      have HO := Lib.hid ho
      have HU := Lib.hid hu
      obtain ⟨c0, c1, c2, c3, c4, d0, d1, d2, d3, d4⟩ := hkeep _ (Upd.refl _ _)
      clear hkeep ho hu H1 H2 HR1 HR2
      generalize l[k] = x at *
      rcases x with ⟨xc, xk, xf, xb, xa⟩
      unfold iv at HO
      simp only at HKEEP HO c0 c1 c2 c3 c4 d0 d1 d2 d3 d4
      go_wp2_with (fail)
      go_region_held3 (fun w' => w'.cell? ⟨g, off + k * 5, none⟩ = some (i64 xc) ∧ w'.cell? ⟨g, off + k * 5 + 1, none⟩ = some (i64 xk) ∧ w'.cell? ⟨g, off + k * 5 + 2, none⟩ = some (i64 xf) ∧ w'.cell? ⟨g, off + k * 5 + 3, none⟩ = some (.string xb) ∧ w'.cell? ⟨g, off + k * 5 + 4, none⟩ = some (i64 xa) ∧
          w'.cell? ⟨g', off' + k * 5, none⟩ = some (i64 xc) ∧ w'.cell? ⟨g', off' + k * 5 + 1, none⟩ = some (i64 xk) ∧ w'.cell? ⟨g', off' + k * 5 + 2, none⟩ = some (i64 xf) ∧ w'.cell? ⟨g', off' + k * 5 + 3, none⟩ = some (.string xb) ∧ w'.cell? ⟨g', off' + k * 5 + 4, none⟩ = some (i64 xa))
        (exact HKEEP.out _ (by (repeat' (first | (with_reducible exact Upd.refl _ _) | (with_reducible exact huu) | (with_reducible apply Upd.drew) | (with_reducible apply Upd.alloc) | (with_reducible refine Upd.setCell ?_ (.inr (by simp; omega)) _) | (with_reducible refine Upd.setCell ?_ (.inr (by simp)) _)))))
        ((first
          | (go_at_call 35; (with_reducible refine Calls.mono (HO.out _) ?_); rintro e w4 ⟨rfl, hu0⟩; have huu := (by first | exact (Upd.refl _ _).drew.trans' hu0 | exact (Upd.refl _ _).trans' hu0 : Upd [] wr w4))))
      go_wp2_with (fail)
      go_roundw
      case rel => exact ⟨k + 1, by go_num, by omega, HU.out.trans' huu⟩
      case measure => simp [intOf]; omega
    · have e : k = l.length := by omega
      go_wp2_with (fail)
      exact hR.out _ _ ⟨rfl, hu⟩

set_option maxRecDepth 100000 in
set_option maxHeartbeats 8000000 in
theorem fsame_c {w : World} {Z Y : Nat → Prop} {b K : Nat} {r : Rg} {its : Nat → List It} {fv rv xv : Value} (h : FwAt w Z b K r its) (hK : K ≤ 900) (hg : ∀ j, j < 9 → ∀ x ∈ its j, x.b.size ≤ maxLen) (h4 : R4 w Y fv rv xv r its) :
    Calls Try.prog 45 #[.pointer (some ⟨b, 0, none⟩), .agg #[fv, rv, xv]] w fun e w' => e = .returned (.bool true) ∧ Upd [] w w' := by
  obtain ⟨fa, fc, ra, rn, rc, xa, xc, rfl, rfl, rfl⟩ := h4.shape
  have hI := h4.1.ints
  obtain ⟨tv, ht1, ht2⟩ := h4.2.rowS
  have hln : ∀ n, (rowI its n).length ≤ K := by
    obtain ⟨-, Zr, tv', hX⟩ := h
    exact fun n => (hX.rowS n).2
  have hgi : ∀ n, ∀ x ∈ rowI its n, x.b.size ≤ maxLen := by
    intro n
    unfold rowI
    split
    · exact hg _ (by omega)
    · intro x hx; cases hx
  have hra : rn = r.row.length := by
    obtain ⟨ao, cap, e, -⟩ := hI.sl
    injection e with _ e _
  subst hra
  have hlr := h.ok.len
  have H := Lib.hid h
  have HI := Lib.hid hI
  have HT1 := Lib.hid ht1
  have HT2 := Lib.hid ht2
  have HLN := Lib.hid hln
  have HGI := Lib.hid hgi
  have HG := Lib.hid hg
  have HLR := Lib.hid hlr
  clear h hI ht1 ht2 hln hgi hg hlr h4
  have hst : ∃ k : Nat, (-1 : Int) = (k : Int) - 1 ∧ k ≤ 11 := ⟨0, by omega, by omega⟩
  refine post fun R hR => ?_
  go_enter Try.func45, Try.ntmps45
  go_upto_region 1 with (fail)
  have hA := heap_alloc_new w (.cells #[.slice fa 9 fc, .slice ra r.row.length rc, .slice xa 9 xc] 81)
  have hu0 := (Upd.refl [] w).alloc (.cells #[.slice fa 9 fc, .slice ra r.row.length rc, .slice xa 9 xc] 81)
  generalize w.alloc (.cells #[.slice fa 9 fc, .slice ra r.row.length rc, .slice xa 9 xc] 81) = w1 at *
  obtain ⟨A, hAe⟩ : ∃ A, A = w.heap.size := ⟨_, rfl⟩
  rw [← hAe] at hA ⊢
  clear hAe
  have HA := Lib.hid hA
  have HU0 := Lib.hid hu0
  clear hA hu0 hst
  go_wp2_with (fail)
  go_loopw [5] (fun i wr => ∃ k : Nat, i = i64 ((k : Int) - 1) ∧ k ≤ 11 ∧ Upd [] w1 wr) (fun i _ => (10 - intOf i).toNat)
  case atStart => exact ⟨0, rfl, by omega, Upd.refl _ _⟩
  case round =>
    obtain ⟨k, rfl, hk, hu⟩ := hrel
    generalize hi : (k : Int) - 1 = i at *
    have hi1 : -1 ≤ i := by omega
    have hi2 : i ≤ 10 := by omega
    have HIK := Lib.hid hi
    clear hi
    have hA := hu.keep0 HA.out
    obtain ⟨a0, a1, a2, -⟩ := cells3 hA
    have hsA := lt_of_heap hA
    have hu2 := HU0.out.trans' hu
    by_cases hlt : i < 10
    · have hs := HT2.out i
      obtain ⟨va, vc, hv, -⟩ := hs.form
      have hrow := r4row_c (HT1.out.upd0 hu2) i hv fa ra 9 fc r.row.length rc
      rw [hv] at hs
      have hl := HLN.out i
      have hg := HGI.out i
      have HROW := Lib.hid hrow
      have HS := Lib.hid hs
      have HU := Lib.hid hu
      have HU2 := Lib.hid hu2
      have HGg := Lib.hid hg
      clear hrow hs hu hu2 hA hg hv
      go_wp2_with (fail)
      refine HROW.out.mono ?_
      rintro e w2 ⟨rfl, hu3⟩
      have HU3 := Lib.hid (HU2.out.trans' hu3)
      have HU13 := Lib.hid (HU.out.trans' hu3)
      have hwt := fwaits_c (H.out.upd0 HU3.out) i
      have HWT := Lib.hid hwt
      clear hu3 hwt HROW a0 a1 a2 hsA
      go_wp2_with (fail)
      refine HWT.out.mono ?_
      rintro e w3 ⟨rfl, rfl⟩
      have hco := fcost_c (H.out.upd0 HU3.out) hK HG.out i
      have HCO := Lib.hid hco
      clear hco
      have hL : ∃ L, L = rowI its i := ⟨_, rfl⟩
      obtain ⟨L, hL⟩ := hL
      rw [← hL] at HS hl HGg HCO ⊢
      have HL := Lib.hid hL
      clear hL HWT
      generalize hsm : sumC L = sm at *
      have HSM := Lib.hid hsm
      clear hsm
      go_wp2_with (fail)
      refine HCO.out.mono ?_
      rintro e w4 ⟨rfl, hu4⟩
      have HU4 := Lib.hid (HU3.out.trans' hu4)
      have HU14 := Lib.hid (HU13.out.trans' hu4)
      have hrc := r4cost_c (HS.out.upd0 HU4.out) (by omega) HGg.out
      rw [HSM.out] at hrc
      have HRC := Lib.hid hrc
      clear hu4 hrc HCO
      go_wp2_with (fail)
      refine HRC.out.mono ?_
      rintro e w5 ⟨rfl, hu5⟩
      have HU5 := Lib.hid (HU4.out.trans' hu5)
      have HU15 := Lib.hid (HU14.out.trans' hu5)
      have hit := fitems_c (H.out.upd0 HU5.out) hK i
      rw [← HL.out] at hit
      have HIT := Lib.hid hit
      clear hu5 hit HRC
      go_wp2_with (fail)
      refine HIT.out.mono ?_
      rintro e w6 ⟨v6, rfl, hs6, hu6⟩
      have HU6 := Lib.hid (HU5.out.trans' hu6)
      have HU16 := Lib.hid (HU15.out.trans' hu6)
      have hal := falike_c L hs6 (HS.out.upd0 HU6.out) (by omega)
      obtain ⟨ao6, cap6, rfl, -⟩ := hs6.form
      have HAL := Lib.hid hal
      clear hu6 hal HIT hs6
      go_wp2_with (fail)
      refine HAL.out.mono ?_
      rintro e w7 ⟨rfl, hu7⟩
      have HU17 := Lib.hid (HU16.out.trans' hu7)
      clear hu7 HAL
      go_wp2_with (fail)
      go_roundw
      case rel => exact ⟨k + 1, by have := HIK.out; congr 1; omega, by have := HIK.out; omega, HU17.out⟩
      case measure => simp [intOf]; omega
    · have hact : ∀ w', Upd [] wr w' → Calls Try.prog 48 #[.pointer (some ⟨b, 0, none⟩)] w' fun e w'' => ∃ ao cp, e = .returned (.slice ao r.row.length cp) ∧ w''.cell? ⟨A, 1, none⟩ = some (.slice ra r.row.length rc) ∧ Upd [] wr w'' ∧ Ints w'' (.slice ao r.row.length cp) r.row := fun w' hu2 => by
        refine (factive_c (H.out.upd0 ((HU0.out.trans' hu).trans' hu2))).mono ?_
        rintro e w'' ⟨v, rfl, g1, g2⟩
        obtain ⟨ao, cp, rfl, -⟩ := g1.form
        have hx := hu2.trans' g2
        exact ⟨ao, cp, rfl, (cells3 (hx.keep0 hA)).2.1, hx, g1.mono (Nat.zero_le _)⟩
      have hin2 : ∀ (w' : World) (ao : Option Addr) (cp : Nat), Upd [] wr w' → Ints w' (.slice ao r.row.length cp) r.row → Calls Try.prog 59 #[.slice ao r.row.length cp, .slice ra r.row.length rc] w' fun e w'' => e = .returned (.bool true) ∧ w''.cell? ⟨A, 1, none⟩ = some (.slice ra r.row.length rc) ∧ Upd [] wr w'' := fun w' ao cp hx hi => by
        refine (rints_c hi (HI.out.upd0 ((HU0.out.trans' hu).trans' hx)) (by have := HLR.out; omega)).mono ?_
        rintro e w'' ⟨rfl, g2⟩
        have hx2 := hx.trans' g2
        exact ⟨rfl, (cells3 (hx2.keep0 hA)).2.1, hx2⟩
      have HACT := Lib.hid hact
      have HIN := Lib.hid hin2
      have HUR := Lib.hid (HU0.out.trans' hu)
      clear hact hin2 hA hu hu2
      go_wp2_with (fail)
      go_region_held3 (fun w' => w'.cell? ⟨A, 1, none⟩ = some (.slice ra r.row.length rc) ∧ Upd [] wr w')
        ((first | exact ⟨a1, Upd.refl _ _⟩ | exact ⟨a1, (Upd.refl _ _).drew⟩ | exact ⟨b1, bU⟩ | exact ⟨c1, cU⟩))
        ((first
          | (go_at_call 48; (with_reducible refine Calls.mono (HACT.out _ (by first | exact Upd.refl _ _ | exact (Upd.refl _ _).drew)) ?_); rintro e w4 ⟨ao4, cp4, rfl, b1, bU, bI⟩)
          | (go_at_call 59; (with_reducible refine Calls.mono (HIN.out _ _ _ bU bI) ?_); rintro e w5 ⟨rfl, c1, cU⟩)))
      go_wp2_with (fail)
      exact hR.out _ _ ⟨rfl, HUR.out.trans' cU⟩
end Go.Proofs.Ytabhdigannalgaa

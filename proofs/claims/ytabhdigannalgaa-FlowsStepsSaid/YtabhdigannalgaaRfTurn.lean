/-
  The contract of the document's Turn (concourseref25) on a ring as one notion. Condition: rows of some hundred numbers at most.
-/
import Derived.Test.YtabhdigannalgaaRfRg
namespace Go.Proofs.Ytabhdigannalgaa
open Go Go.RowKit

theorem InY.put {Y : Nat → Prop} {fv rv fv' rv' c : Value} {cv : Nat → Value} (h : InY Y fv rv cv) (n : Nat) (h1 : ∀ x ∈ blkL fv', Y x) (h2 : ∀ x ∈ blkL rv', Y x) (h3 : ∀ x ∈ blkL c, Y x) : InY Y fv' rv' (updN cv n c) :=
  ⟨h1, h2, fun j hj x hx => by
    by_cases e : j = n
    · subst e; rw [updN_same] at hx; exact h3 x hx
    · rw [updN_other _ _ e] at hx; exact h.2.2 j hj x hx⟩

/-- a box of a flow -/
def fbox (f : Fl) (ca : Option Addr) (cl cc : Nat) : Obj := .cells #[.bool true, i64 f.q, i64 f.d, .slice ca cl cc, .bool f.rs, .bool f.an] 103

set_option maxRecDepth 100000 in
set_option maxHeartbeats 8000000 in
theorem rturn25_c {w : World} {Y : Nat → Prop} {fv rv : Value} {r : Rg} (h : RfAt w Y fv rv r) (hok : r.ok) {K : Nat} (hsm : r.small K) (hK : K ≤ 900) :
    Calls Try.prog 25 #[.agg #[fv, rv]] w fun e w' => ∃ fv' rv', e = .returned (.tuple #[.agg #[fv', rv'], i64 r.turn.n, i64 r.turn.c, .bool r.turn.ok]) ∧ RfAt w' (grow Y w) fv' rv' r.turn.r ∧ Upd [] w w' := by
  obtain ⟨cv0, hF0, hI0, hY0⟩ := h
  obtain ⟨g0, off0, cap0, rfl, -, -⟩ := hF0.form
  obtain ⟨ra0, rc0, rfl, -, -⟩ := hI0.sl
  have H0 : Hid (RfAt w Y (.slice (some ⟨g0, off0, none⟩) 9 cap0) (.slice ra0 r.row.length rc0) r) := Lib.hid ⟨cv0, hF0, hI0, hY0⟩
  have h := 0
  clear hF0 hI0 hY0
  have HOK0 := Lib.hid hok
  have HSM0 := Lib.hid hsm
  clear h hok hsm
  refine post fun R hR => ?_
  go_enter Try.func25, Try.ntmps25
  go_upto_region 1 with (fail)
  obtain ⟨A, hA⟩ : ∃ A, A = w.heap.size := ⟨_, rfl⟩
  have hAw : w.heap.size ≤ A := by omega
  have hA1 := heap_alloc_old (heap_alloc_new w (.cells #[.slice (some ⟨g0, off0, none⟩) 9 cap0, .slice ra0 r.row.length rc0] 46)) (.cells #[.slice none 0 0, .slice none 0 0] 46)
  have hA2 := heap_new2 w (.cells #[.slice (some ⟨g0, off0, none⟩) 9 cap0, .slice ra0 r.row.length rc0] 46) (.cells #[.slice none 0 0, .slice none 0 0] 46)
  have hu0 := ((Upd.refl [] w).alloc (.cells #[.slice (some ⟨g0, off0, none⟩) 9 cap0, .slice ra0 r.row.length rc0] 46)).alloc (.cells #[.slice none 0 0, .slice none 0 0] 46)
  rw [← hA] at hA1 hA2 ⊢
  clear hA
  generalize (w.alloc (.cells #[.slice (some ⟨g0, off0, none⟩) 9 cap0, .slice ra0 r.row.length rc0] 46)).alloc (.cells #[.slice none 0 0, .slice none 0 0] 46) = w1 at *
  have hst : ∃ (r' : Rg) (fv' rv' : Value), r.meas = r'.meas ∧ w1.heap[A]? = some (.cells #[fv', rv'] 46 (0, 0)) ∧ w1.heap[A + 1]? = some (.cells #[.slice none 0 0, .slice none 0 0] 46 (0, 0)) ∧ RfAt w1 (grow Y w) fv' rv' r' ∧ r'.ok ∧ r'.small K ∧ Upd [] w w1 ∧ r'.turn = r.turn :=
    ⟨r, _, _, rfl, hA1, hA2, (H0.out.upd0 hu0).more (grow_sub Y w), HOK0.out, HSM0.out, hu0, rfl⟩
  clear hA1 hA2 hu0 H0 HOK0 HSM0
  go_loopg [6] r.meas (fun k _ wr => ∃ (r' : Rg) (fv' rv' : Value), k = r'.meas ∧ wr.heap[A]? = some (.cells #[fv', rv'] 46 (0, 0)) ∧ wr.heap[A + 1]? = some (.cells #[.slice none 0 0, .slice none 0 0] 46 (0, 0)) ∧ RfAt wr (grow Y w) fv' rv' r' ∧ r'.ok ∧ r'.small K ∧ Upd [] w wr ∧ r'.turn = r.turn)
  case atStart => exact hst
  case round =>
    clear hst
    obtain ⟨r', fv', rv', rfl, hB1, hB2, hRf, hok, hsm, hu, hT⟩ := hrel
    have hlen9 := hok.len
    obtain ⟨cv, hF, hI, hY⟩ := hRf
    obtain ⟨g, off, cap, rfl, hg, hcap⟩ := hF.form
    obtain ⟨ra, rc, rfl, hrc, hrow⟩ := hI.sl
    have HY := Lib.hid hY
    clear hY
    obtain ⟨a0, a1, p0, p1⟩ := cells2 hB1
    have hs1 := lt_of_heap hB1
    have hs2 := lt_of_heap hB2
    cases hr : r'.row with
    | nil =>
      have HFIN := Lib.hid (hT.symm.trans (turn_empty hr))
      have HF := Lib.hid hF
      have HI := Lib.hid hI
      have HU := Lib.hid hu
      obtain ⟨b0, b1, q0, q1⟩ := cells2 hB2
      rw [hr] at a1 HI HY
      simp only [List.length_nil] at a1 HI HY
      clear hF hI hrow hok hsm hT hu hrc hlen9
      go_wp2_with (fail)
      have hK2 := hset2_1 (v := .slice ra 0 rc) (hset2_0 (v := .slice (some ⟨g, off, none⟩) 9 cap) hB2)
      have hu9 : Upd [A + 1] wr ((wr.setCell ⟨A + 1, 0, none⟩ (.slice (some ⟨g, off, none⟩) 9 cap)).setCell ⟨A + 1, 1, none⟩ (.slice ra 0 rc)) := ((Upd.refl _ _).setCell (by simp) _).setCell (by simp) _
      obtain ⟨k0, k1, -⟩ := cells2 hK2
      clear b0 b1 q0 q1 a0 a1
      refine bodyPost_ret (v := .tuple #[.agg #[.slice (some ⟨g, off, none⟩) 9 cap, .slice ra 0 rc], i64 0, i64 0, .bool false]) (by simp [results, Try.results25, go_sem, *]) rfl ?_
      refine hR.out _ _ ?_
      have hF9 := HF.out.off hu9 (fun x hx => by have := List.mem_singleton.1 hx; subst this; exact ⟨_, _, hB2, by decide, by decide⟩)
      have hi9 := Sub.upd HI.out hu9 (fun x hx hm => by
        obtain ⟨c2, h2⟩ := Sub.ty HI.out x hx
        have := List.mem_singleton.1 hm; subst this
        exact cells_ne hB2 h2 (by decide) rfl)
      have hu10 := HU.out.trans hu9 (fun x hx => .inr (by have := List.mem_singleton.1 hx; omega))
      rw [HFIN.out]
      refine ⟨_, _, rfl, ⟨_, hF9, ?_, HY.out⟩, hu10⟩
      rw [hr]
      exact hi9
    | cons n l =>
      obtain ⟨f, c, cs, hf, hc, hrs, hc1, hc2⟩ := hok.front hr
      have hnr := hok.rng n f hf
      obtain ⟨m, rfl⟩ : ∃ m : Nat, n = m := ⟨n.toNat, by omega⟩
      have hm : m < 9 := by omega
      have hn8 : (m : Int) < 9 := by omega
      have hGm : Gof r' m = F6.of (some f) := by unfold Gof; rw [hf]
      have hfo := hok.fok m f hf
      obtain ⟨hq1, hq2⟩ := hfo.q
      obtain ⟨hd1, hd2⟩ := hfo.d
      have han := hfo.an
      have hcsl : cs.length + 1 ≤ K := by have := hsm m f hf; rw [hc] at this; simpa using this
      have hlr : r'.row.length = l.length + 1 := by rw [hr]; rfl
      have hll : l.length ≤ 8 := by omega
      obtain ⟨gr, offr, rfl, hgr, hrc1⟩ := hrow (by omega)
      have r0 : wr.cell? ⟨gr, offr, none⟩ = some (i64 m) := by have := hrc1 0 (by omega); rw [Nat.add_zero] at this; rw [this]; simp only [hr, List.getElem_cons_zero]
      have hcm := hF.2 m hm
      rw [hGm] at hcm
      change Ints wr (cv m) f.cs at hcm
      rw [hc] at hcm
      obtain ⟨ca, cc, hcv, hccl, hcrow⟩ := hcm.sl
      obtain ⟨gc, offc, rfl, hgc, hcc1⟩ := hcrow (by simp)
      have c0 : wr.cell? ⟨gc, offc, none⟩ = some (i64 c) := by have := hcc1 0 (by simp); rw [Nat.add_zero] at this; exact this
      obtain ⟨d0, d1, d2, d3, d4, d5⟩ := hF.get hm
      rw [hGm] at d0 d1 d2 d4 d5
      rw [hcv] at d3
      simp only [F6.of, List.length_cons] at d0 d1 d2 d3 d4 d5
      rw [hrs] at d4
      rw [hlr] at a1 hI hrc HY
      have HF := Lib.hid hF
      have HI := Lib.hid hI
      have HU := Lib.hid hu
      have HT := Lib.hid hT
      have HOK := Lib.hid hok
      have HSM := Lib.hid hsm
      have HR := Lib.hid hr
      have HFL := Lib.hid hf
      have HC := Lib.hid hc
      have HRS := Lib.hid hrs
      have HCV := Lib.hid hcv
      have HCM := Lib.hid hcm
      have HG := Lib.hid hGm
      have HAN := Lib.hid han
      simp only [List.length_cons] at hccl HCM HCV
      rw [hlr] at hB1
      clear hF hI hu hT hok hsm hr hf hc hrs hcv hcm hGm han hrow hrc1 hcrow hcc1 hlr hnr hlen9
      go_upto_region 4 with (fail)
      obtain ⟨X, hX⟩ : ∃ X, X = wr.heap.size := ⟨_, rfl⟩
      have hC1 := heap_alloc_old hB1 (.cells #[.bool true, i64 f.q, i64 f.d, .slice (some ⟨gc, offc, none⟩) (cs.length + 1) cc, .bool false, .bool f.an] 103)
      have hC2 := heap_alloc_old hB2 (.cells #[.bool true, i64 f.q, i64 f.d, .slice (some ⟨gc, offc, none⟩) (cs.length + 1) cc, .bool false, .bool f.an] 103)
      have hC3 := heap_alloc_new wr (.cells #[.bool true, i64 f.q, i64 f.d, .slice (some ⟨gc, offc, none⟩) (cs.length + 1) cc, .bool false, .bool f.an] 103)
      have hux := (Upd.refl [] wr).alloc (.cells #[.bool true, i64 f.q, i64 f.d, .slice (some ⟨gc, offc, none⟩) (cs.length + 1) cc, .bool false, .bool f.an] 103)
      rw [← hX] at hC3 ⊢
      have hAX : A + 1 < X := by omega
      have hXw : wr.heap.size ≤ X := by omega
      have hgX : gc < X := by omega
      clear hX hs1 hs2 a0 a1 p0 p1 d0 d1 d2 d3 d4 d5 hB1 hB2 r0 c0
      generalize wr.alloc (.cells #[.bool true, i64 f.q, i64 f.d, .slice (some ⟨gc, offc, none⟩) (cs.length + 1) cc, .bool false, .bool f.an] 103) = w3 at *
      have HUX := Lib.hid hux
      clear hux
      have hs3 := lt_of_heap hC3
      obtain ⟨x0, x1, x2, x3, x4, x5, y0, y1, y2, y3, y4, y5⟩ := cells6 hC3
      go_upto_if 23 with (fail)
      go_cut [] (fun wc => wc.heap[X]? = some (.cells #[.bool true, i64 f.q, i64 f.fresh.d, .slice (some ⟨gc, offc, none⟩) (cs.length + 1) cc, .bool false, .bool f.fresh.an] 103 (0, 0)) ∧ Upd [X] w3 wc)
      case first =>
        by_cases ha : f.an = true
        · have h40 := HAN.out ha
          have hfe : f.fresh = { f with d := f.d + f.q, an := false } := by unfold Fl.fresh; rw [if_pos ha]
          have HFE := Lib.hid hfe
          rw [ha] at x5
          rw [ha]
          clear hfe ha
          go_wp2_with (fail)
          go_meet
          case rel =>
            rw [HFE.out]
            exact ⟨hset6_5 (hset6_2 hC3), ((Upd.refl _ _).setCell (by simp) _).setCell (by simp) _⟩
        · have ha' : f.an = false := by simpa using ha
          have hfe : f.fresh = f := by unfold Fl.fresh; rw [if_neg ha]
          have HFE := Lib.hid hfe
          rw [ha'] at x5
          rw [ha']
          clear ha ha' hfe
          go_wp2_with (fail)
          go_meet
          case rel =>
            rw [HFE.out]
            exact ⟨hC3, Upd.refl _ _⟩
      case rest =>
        obtain ⟨hD3, huD⟩ := hcut
        have hE1 := huD.keep hC1 (by intro hm; have := List.mem_singleton.1 hm; omega)
        have hE2 := huD.keep hC2 (by intro hm; have := List.mem_singleton.1 hm; omega)
        have hu4 : Upd [] wr wc := HUX.out.trans huD (fun x hx => .inr (by have := List.mem_singleton.1 hx; omega))
        obtain ⟨e1, e2, e3, e4, e5, e6⟩ := fresh_ok hfo
        have hspn := fun (hp : ¬ c ≤ f.fresh.d) => turn_spin HOK.out HR.out HFL.out HC.out hp
        have hmes := fun (hp : ¬ c ≤ f.fresh.d) => meas_spin HOK.out HR.out HFL.out HC.out hp
        have hosp := fun (hp : ¬ c ≤ f.fresh.d) => HOK.out.spin HR.out HFL.out HC.out hp
        have hsrv := fun (hp : c ≤ f.fresh.d) => turn_serve HR.out HFL.out HC.out hp
        have hfe1 : F6.of (some { f.fresh with d := f.fresh.d - c, cs := cs }) = ⟨true, f.q, f.fresh.d - c, cs, false, false⟩ := by unfold F6.of; simp only [e1, e3, HRS.out, e4]
        have hfe2 : F6.of (some { f.fresh with an := true }) = ⟨true, f.q, f.fresh.d, c :: cs, false, true⟩ := by unfold F6.of; simp only [e1, e3, HRS.out, e2, HC.out]
        have hcs4 : Ints wc (.slice (some ⟨gc, offc, none⟩) (cs.length + 1) cc) (c :: cs) := by have := HCM.out.upd0 hu4; rw [HCV.out] at this; exact this
        rw [e4] at hD3
        have HSPN := Lib.hid hspn
        have HMES := Lib.hid hmes
        have HOSP := Lib.hid hosp
        have HSRV := Lib.hid hsrv
        have HFE1 := Lib.hid hfe1
        have HFE2 := Lib.hid hfe2
        have HU4 := Lib.hid hu4
        have HCS4 := Lib.hid hcs4
        have c0 : wc.cell? ⟨gc, offc, none⟩ = some (i64 c) := by
          obtain ⟨ao, cp, e, -, hh⟩ := hcs4.sl
          obtain ⟨g', o', e', -, h2⟩ := hh (by simp)
          injection e with e7 e8 e9
          rw [e'] at e7
          injection e7 with e7
          injection e7 with e10 e11
          subst e10; subst e11
          have := h2 0 (by simp); rw [Nat.add_zero] at this; exact this
        clear hC1 hC2 hC3 hs3 x0 x1 x2 x3 x4 x5 y0 y1 y2 y3 y4 y5 huD hu4 hspn hmes hosp hsrv hfe1 hfe2 hcs4 e1 e2 e3 e4 HCM hgc
        generalize hDD : f.fresh.d = D at *
        have HDD := Lib.hid hDD
        clear hDD
        obtain ⟨x0, x1, x2, x3, x4, x5, y0, y1, y2, y3, y4, y5⟩ := cells6 hD3
        have hs3 := lt_of_heap hD3
        by_cases hpay : c ≤ D
        · have HFIN := Lib.hid (HT.out.symm.trans (HSRV.out hpay))
          go_upto_region 10 with (fail)
          have hF1 := heap_setCell_ne (c := X) hE1 (by omega) 2 (i64 (D - c))
          have hF2 := heap_setCell_ne (c := X) hE2 (by omega) 2 (i64 (D - c))
          have hF3 := hset6_2 (v := i64 (D - c)) hD3
          have hu5 : Upd [X] wc (wc.setCell ⟨X, 2, none⟩ (i64 (D - c))) := (Upd.refl _ _).setCell (by simp) _
          have HCS5 := Lib.hid (Sub.upd HCS4.out hu5 (fun x hx hm => by
            obtain ⟨c2, h2⟩ := Sub.ty HCS4.out x hx
            have := List.mem_singleton.1 hm; subst this
            exact cells_ne hD3 h2 (by decide) rfl))
          have HU5 := Lib.hid (HU4.out.trans hu5 (fun x hx => .inr (by have := List.mem_singleton.1 hx; omega)))
          clear hE1 hE2 hD3 hs3 x0 x1 x2 x3 x4 x5 y0 y1 y2 y3 y4 y5 hu5 HCS4 HU4 c0 HSPN HMES HOSP HFE2
          generalize wc.setCell ⟨X, 2, none⟩ (i64 (D - c)) = w5 at *
          by_cases hcc : cc = 1
          · subst hcc
            obtain rfl : cs = [] := List.eq_nil_of_length_eq_zero (by omega)
            have hv : Ints w5 (.slice (some ⟨gc, offc, none⟩) ([] : List Int).length 0) [] := Sub.none1 HCS5.out
            have hnl : ([] : List Int).length ≤ 2000 := by first | omega | decide
            obtain ⟨ao6, cap6, w6, hr6, hs6, hu6⟩ := run_copy_ints hv hnl
            have hG1 := hu6.keep0 hF1
            have hG2 := hu6.keep0 hF2
            have hG3 := hu6.keep0 hF3
            have HS6 := Lib.hid (hs6.mono (Nat.zero_le _))
            have HYC := Lib.hid (fun x hx => .inr (Nat.le_trans (HU.out.trans' HU5.out).size (hs6.lt x hx).1) : ∀ x ∈ blkL (.slice ao6 ([] : List Int).length cap6), grow Y w x)
            have HU6 := Lib.hid (HU5.out.trans' hu6)
            have HR6 := Lib.hid hr6
            have t5 := lt_of_heap hF3
            have t6 := lt_of_heap hG3
            obtain ⟨x0, x1, x2, x3, x4, x5, -⟩ := cells6 hF3
            obtain ⟨z0, z1, z2, z3, z4, z5, y0, y1, y2, y3, y4, y5⟩ := cells6 hG3
            clear hF1 hF2 hF3 hu6 hs6 hr6 hv HCS5 HU5
            go_upto_region 11 with (at_builtin; (refine wpList_append_run _ rfl _ _ 36 rfl rfl rfl HR6.out ?_; clear HR6))
            have hH1 := heap_setCell_ne (c := X) hG1 (by omega) 3 (.slice ao6 ([] : List Int).length cap6)
            have hH2 := heap_setCell_ne (c := X) hG2 (by omega) 3 (.slice ao6 ([] : List Int).length cap6)
            have hH3 := hset6_3 (v := .slice ao6 ([] : List Int).length cap6) hG3
            have hu7 : Upd [X] w6 (w6.setCell ⟨X, 3, none⟩ (.slice ao6 ([] : List Int).length cap6)) := (Upd.refl _ _).setCell (by simp) _
            have HI7 := Lib.hid (HS6.out.upd hu7 (fun x hx hm => by
              obtain ⟨c2, h2⟩ := HS6.out.ty x hx
              have := List.mem_singleton.1 hm; subst this
              exact cells_ne hG3 h2 (by decide) rfl))
            have HU7 := Lib.hid (HU6.out.trans hu7 (fun x hx => .inr (by have := List.mem_singleton.1 hx; omega)))
            clear hG1 hG2 hG3 t5 t6 x0 x1 x2 x3 x4 x5 y0 y1 y2 y3 y4 y5 z0 z1 z2 z3 z4 z5 hu7 HS6 HU6
            generalize w6.setCell ⟨X, 3, none⟩ (.slice ao6 ([] : List Int).length cap6) = w7 at *
            obtain ⟨a0, a1, -⟩ := cells2 hH1
            obtain ⟨x0, x1, x2, x3, x4, x5, -⟩ := cells6 hH3
            have hwi := rwith_c (HF.out.upd0 HU7.out) m hm ⟨true, f.q, D - c, [], false, false⟩ HI7.out (some ⟨gr, offr, none⟩) (l.length + 1) rc
            have HWI := Lib.hid hwi
            clear hwi
            go_wp2_with (fail)
            refine HWI.out.mono ?_
            rintro e w8 ⟨fv8, rfl, hF8, hu8, -⟩
            have hst := rsettle_c hF8 ((HI.out.upd0 HU7.out).upd0 hu8) (by rw [HR.out]; simp; omega) m hm (by rw [updN_same]; exact hnl)
            rw [updN_same, updN_updN] at hst
            have HST := Lib.hid hst
            have hJ2 := hu8.keep0 hH2
            have HU8 := Lib.hid (HU7.out.trans' hu8)
            clear hst hH1 hH2 hH3 a0 a1 x0 x1 x2 x3 x4 x5 hF8 hu8
            go_wp2_with (fail)
            refine HST.out.mono ?_
            rintro e w9 ⟨fv9, rv9, rfl, hF9, hi9, hu9, hnf9, hnr9⟩
            have HNF := Lib.hid (fun x hx => .inr (Nat.le_trans (HU.out.trans' HU8.out).size (hnf9 x hx)) : ∀ x ∈ blkL fv9, grow Y w x)
            have HNR := Lib.hid (fun x hx => .inr (Nat.le_trans (HU.out.trans' HU8.out).size (hnr9 x hx)) : ∀ x ∈ blkL rv9, grow Y w x)
            clear hnf9 hnr9
            have hK2 := hu9.keep0 hJ2
            have HU9 := Lib.hid (HU8.out.trans' hu9)
            obtain ⟨g9, off9, cap9, rfl, -, -⟩ := hF9.form
            obtain ⟨ao9, cp9, rfl, -⟩ := hi9.sl
            generalize hrl : (stR ⟨true, f.q, D - c, [], false, false⟩ r'.row m).length = rl at *
            have HRL := Lib.hid hrl
            have HF9 := Lib.hid hF9
            have HI9 := Lib.hid hi9
            clear hJ2 hu9 hF9 hi9 hrl
            obtain ⟨b0, b1, q0, q1⟩ := cells2 hK2
            go_wp2_with (fail)
            have hL2 := hset2_1 (v := .slice ao9 rl cp9) (hset2_0 (v := .slice (some ⟨g9, off9, none⟩) 9 cap9) hK2)
            have hu10 : Upd [A + 1] w9 ((w9.setCell ⟨A + 1, 0, none⟩ (.slice (some ⟨g9, off9, none⟩) 9 cap9)).setCell ⟨A + 1, 1, none⟩ (.slice ao9 rl cp9)) := ((Upd.refl _ _).setCell (by simp) _).setCell (by simp) _
            obtain ⟨k0, k1, -⟩ := cells2 hL2
            clear b0 b1 q0 q1
            refine bodyPost_ret (v := .tuple #[.agg #[.slice (some ⟨g9, off9, none⟩) 9 cap9, .slice ao9 rl cp9], i64 m, i64 c, .bool true]) (by simp [results, Try.results25, go_sem, *]) rfl ?_
            refine hR.out _ _ ?_
            have hF10 := HF9.out.off hu10 (fun x hx => by have := List.mem_singleton.1 hx; subst this; exact ⟨_, _, hK2, by decide, by decide⟩)
            have hi10 := HI9.out.upd hu10 (fun x hx hm => by
              obtain ⟨c2, h2⟩ := Sub.ty HI9.out x hx
              have := List.mem_singleton.1 hm; subst this
              exact cells_ne hK2 h2 (by decide) rfl)
            have hu11 := (HU.out.trans' HU9.out).trans hu10 (fun x hx => .inr (by have := List.mem_singleton.1 hx; omega))
            rw [HFIN.out]
            refine ⟨_, _, rfl, ⟨updN cv m (.slice ao6 ([] : List Int).length cap6), ?_, ?_, HY.out.put m HNF.out HNR.out HYC.out⟩, hu11⟩
            · have hfe := HFE1.out
              have hse : r'.serve m f c [] = r'.settle m { f.fresh with d := f.fresh.d - c, cs := [] } := rfl
              rw [← HDD.out] at hfe hF10
              simp only
              rw [hse, (settle_gof r' m _).1, hfe]
              exact hF10
            · have hfe := HFE1.out
              have hi11 := hi10
              rw [← HRL.out] at hi11
              rw [← HDD.out] at hfe hi11
              have hse : r'.serve m f c [] = r'.settle m { f.fresh with d := f.fresh.d - c, cs := [] } := rfl
              simp only
              rw [hse, (settle_gof r' m _).2, hfe]
              rw [← HRL.out, ← HDD.out]
              exact hi11
          · have hv : Ints w5 (.slice (some ⟨gc, offc + 1, none⟩) cs.length (cc - 1)) cs := Sub.tail1 HCS5.out
            have hnl : (cs : List Int).length ≤ 2000 := by first | omega | decide
            obtain ⟨ao6, cap6, w6, hr6, hs6, hu6⟩ := run_copy_ints hv hnl
            have hG1 := hu6.keep0 hF1
            have hG2 := hu6.keep0 hF2
            have hG3 := hu6.keep0 hF3
            have HS6 := Lib.hid (hs6.mono (Nat.zero_le _))
            have HYC := Lib.hid (fun x hx => .inr (Nat.le_trans (HU.out.trans' HU5.out).size (hs6.lt x hx).1) : ∀ x ∈ blkL (.slice ao6 (cs : List Int).length cap6), grow Y w x)
            have HU6 := Lib.hid (HU5.out.trans' hu6)
            have HR6 := Lib.hid hr6
            have t5 := lt_of_heap hF3
            have t6 := lt_of_heap hG3
            obtain ⟨x0, x1, x2, x3, x4, x5, -⟩ := cells6 hF3
            obtain ⟨z0, z1, z2, z3, z4, z5, y0, y1, y2, y3, y4, y5⟩ := cells6 hG3
            clear hF1 hF2 hF3 hu6 hs6 hr6 hv HCS5 HU5
            go_upto_region 11 with (at_builtin; (refine wpList_append_run _ rfl _ _ 36 rfl rfl rfl HR6.out ?_; clear HR6))
            have hH1 := heap_setCell_ne (c := X) hG1 (by omega) 3 (.slice ao6 (cs : List Int).length cap6)
            have hH2 := heap_setCell_ne (c := X) hG2 (by omega) 3 (.slice ao6 (cs : List Int).length cap6)
            have hH3 := hset6_3 (v := .slice ao6 (cs : List Int).length cap6) hG3
            have hu7 : Upd [X] w6 (w6.setCell ⟨X, 3, none⟩ (.slice ao6 (cs : List Int).length cap6)) := (Upd.refl _ _).setCell (by simp) _
            have HI7 := Lib.hid (HS6.out.upd hu7 (fun x hx hm => by
              obtain ⟨c2, h2⟩ := HS6.out.ty x hx
              have := List.mem_singleton.1 hm; subst this
              exact cells_ne hG3 h2 (by decide) rfl))
            have HU7 := Lib.hid (HU6.out.trans hu7 (fun x hx => .inr (by have := List.mem_singleton.1 hx; omega)))
            clear hG1 hG2 hG3 t5 t6 x0 x1 x2 x3 x4 x5 y0 y1 y2 y3 y4 y5 z0 z1 z2 z3 z4 z5 hu7 HS6 HU6
            generalize w6.setCell ⟨X, 3, none⟩ (.slice ao6 (cs : List Int).length cap6) = w7 at *
            obtain ⟨a0, a1, -⟩ := cells2 hH1
            obtain ⟨x0, x1, x2, x3, x4, x5, -⟩ := cells6 hH3
            have hwi := rwith_c (HF.out.upd0 HU7.out) m hm ⟨true, f.q, D - c, cs, false, false⟩ HI7.out (some ⟨gr, offr, none⟩) (l.length + 1) rc
            have HWI := Lib.hid hwi
            clear hwi
            go_wp2_with (fail)
            refine HWI.out.mono ?_
            rintro e w8 ⟨fv8, rfl, hF8, hu8, -⟩
            have hst := rsettle_c hF8 ((HI.out.upd0 HU7.out).upd0 hu8) (by rw [HR.out]; simp; omega) m hm (by rw [updN_same]; exact hnl)
            rw [updN_same, updN_updN] at hst
            have HST := Lib.hid hst
            have hJ2 := hu8.keep0 hH2
            have HU8 := Lib.hid (HU7.out.trans' hu8)
            clear hst hH1 hH2 hH3 a0 a1 x0 x1 x2 x3 x4 x5 hF8 hu8
            go_wp2_with (fail)
            refine HST.out.mono ?_
            rintro e w9 ⟨fv9, rv9, rfl, hF9, hi9, hu9, hnf9, hnr9⟩
            have HNF := Lib.hid (fun x hx => .inr (Nat.le_trans (HU.out.trans' HU8.out).size (hnf9 x hx)) : ∀ x ∈ blkL fv9, grow Y w x)
            have HNR := Lib.hid (fun x hx => .inr (Nat.le_trans (HU.out.trans' HU8.out).size (hnr9 x hx)) : ∀ x ∈ blkL rv9, grow Y w x)
            clear hnf9 hnr9
            have hK2 := hu9.keep0 hJ2
            have HU9 := Lib.hid (HU8.out.trans' hu9)
            obtain ⟨g9, off9, cap9, rfl, -, -⟩ := hF9.form
            obtain ⟨ao9, cp9, rfl, -⟩ := hi9.sl
            generalize hrl : (stR ⟨true, f.q, D - c, cs, false, false⟩ r'.row m).length = rl at *
            have HRL := Lib.hid hrl
            have HF9 := Lib.hid hF9
            have HI9 := Lib.hid hi9
            clear hJ2 hu9 hF9 hi9 hrl
            obtain ⟨b0, b1, q0, q1⟩ := cells2 hK2
            go_wp2_with (fail)
            have hL2 := hset2_1 (v := .slice ao9 rl cp9) (hset2_0 (v := .slice (some ⟨g9, off9, none⟩) 9 cap9) hK2)
            have hu10 : Upd [A + 1] w9 ((w9.setCell ⟨A + 1, 0, none⟩ (.slice (some ⟨g9, off9, none⟩) 9 cap9)).setCell ⟨A + 1, 1, none⟩ (.slice ao9 rl cp9)) := ((Upd.refl _ _).setCell (by simp) _).setCell (by simp) _
            obtain ⟨k0, k1, -⟩ := cells2 hL2
            clear b0 b1 q0 q1
            refine bodyPost_ret (v := .tuple #[.agg #[.slice (some ⟨g9, off9, none⟩) 9 cap9, .slice ao9 rl cp9], i64 m, i64 c, .bool true]) (by simp [results, Try.results25, go_sem, *]) rfl ?_
            refine hR.out _ _ ?_
            have hF10 := HF9.out.off hu10 (fun x hx => by have := List.mem_singleton.1 hx; subst this; exact ⟨_, _, hK2, by decide, by decide⟩)
            have hi10 := HI9.out.upd hu10 (fun x hx hm => by
              obtain ⟨c2, h2⟩ := Sub.ty HI9.out x hx
              have := List.mem_singleton.1 hm; subst this
              exact cells_ne hK2 h2 (by decide) rfl)
            have hu11 := (HU.out.trans' HU9.out).trans hu10 (fun x hx => .inr (by have := List.mem_singleton.1 hx; omega))
            rw [HFIN.out]
            refine ⟨_, _, rfl, ⟨updN cv m (.slice ao6 (cs : List Int).length cap6), ?_, ?_, HY.out.put m HNF.out HNR.out HYC.out⟩, hu11⟩
            · have hfe := HFE1.out
              have hse : r'.serve m f c cs = r'.settle m { f.fresh with d := f.fresh.d - c, cs := cs } := rfl
              rw [← HDD.out] at hfe hF10
              simp only
              rw [hse, (settle_gof r' m _).1, hfe]
              exact hF10
            · have hfe := HFE1.out
              have hi11 := hi10
              rw [← HRL.out] at hi11
              rw [← HDD.out] at hfe hi11
              have hse : r'.serve m f c cs = r'.settle m { f.fresh with d := f.fresh.d - c, cs := cs } := rfl
              simp only
              rw [hse, (settle_gof r' m _).2, hfe]
              rw [← HRL.out, ← HDD.out]
              exact hi11
        · have hv4 := HCS4.out
          have hT2 := Lib.hid ((HSPN.out hpay).symm.trans HT.out)
          have hM2 := Lib.hid (HMES.out hpay)
          have hO2 := Lib.hid (HOSP.out hpay)
          clear hv4 HSPN HMES HOSP HSRV HFE1
          go_upto_region 13 with (fail)
          have hF1 := heap_setCell_ne (c := X) hE1 (by omega) 5 (.bool true)
          have hF2 := heap_setCell_ne (c := X) hE2 (by omega) 5 (.bool true)
          have hF3 := hset6_5 (v := .bool true) hD3
          have hu5 : Upd [X] wc (wc.setCell ⟨X, 5, none⟩ (.bool true)) := (Upd.refl _ _).setCell (by simp) _
          have HCS5 := Lib.hid (Sub.upd HCS4.out hu5 (fun x hx hm => by
            obtain ⟨c2, h2⟩ := Sub.ty HCS4.out x hx
            have := List.mem_singleton.1 hm; subst this
            exact cells_ne hD3 h2 (by decide) rfl))
          have HU5 := Lib.hid (HU4.out.trans hu5 (fun x hx => .inr (by have := List.mem_singleton.1 hx; omega)))
          clear hE1 hE2 hD3 hs3 x0 x1 x2 x3 x4 x5 y0 y1 y2 y3 y4 y5 hu5 HCS4 HU4 c0
          generalize wc.setCell ⟨X, 5, none⟩ (.bool true) = w5 at *
          obtain ⟨a0, a1, -⟩ := cells2 hF1
          obtain ⟨x0, x1, x2, x3, x4, x5, -⟩ := cells6 hF3
          have hwi := rwith_c (HF.out.upd0 HU5.out) m hm ⟨true, f.q, D, c :: cs, false, true⟩ HCS5.out (some ⟨gr, offr, none⟩) (l.length + 1) rc
          have HWI := Lib.hid hwi
          clear hwi
          go_wp2_with (fail)
          refine HWI.out.mono ?_
          rintro e w7 ⟨fv7, rfl, hF7, hu7, hn7⟩
          have HN7 := Lib.hid (fun x hx => Nat.le_trans (HU.out.trans' HU5.out).size (hn7 x hx) : ∀ x ∈ blkL fv7, w.heap.size ≤ x)
          clear hn7
          have hG1 := hu7.keep0 hF1
          have hG2 := hu7.keep0 hF2
          have HU7 := Lib.hid (HU5.out.trans' hu7)
          obtain ⟨g7, off7, cap7, rfl, -, -⟩ := hF7.form
          have HF7 := Lib.hid hF7
          clear hF1 hF2 hF3 a0 a1 x0 x1 x2 x3 x4 x5 hu7 hF7 HCS5 HU5
          obtain ⟨a0, a1, p0, p1⟩ := cells2 hG1
          have t1 := lt_of_heap hG1
          go_upto_region 14 with (fail)
          have hI1 := hset2_1 (v := .slice (some ⟨gr, offr, none⟩) (l.length + 1) rc) (hset2_0 (v := .slice (some ⟨g7, off7, none⟩) 9 cap7) hG1)
          have hI2 := heap_setCell_ne (c := A) (heap_setCell_ne (c := A) hG2 (by omega) 0 (.slice (some ⟨g7, off7, none⟩) 9 cap7)) (by omega) 1 (.slice (some ⟨gr, offr, none⟩) (l.length + 1) rc)
          have hu8 : Upd [A] w7 ((w7.setCell ⟨A, 0, none⟩ (.slice (some ⟨g7, off7, none⟩) 9 cap7)).setCell ⟨A, 1, none⟩ (.slice (some ⟨gr, offr, none⟩) (l.length + 1) rc)) := ((Upd.refl _ _).setCell (by simp) _).setCell (by simp) _
          have HF8 := Lib.hid (HF7.out.off hu8 (fun x hx => by have := List.mem_singleton.1 hx; subst this; exact ⟨_, _, hG1, by decide, by decide⟩))
          have hi7 := HI.out.upd0 HU7.out
          have hi8 := Sub.upd hi7 hu8 (fun x hx hm => by
            obtain ⟨c2, h2⟩ := Sub.ty hi7 x hx
            have := List.mem_singleton.1 hm; subst this
            exact cells_ne hG1 h2 (by decide) rfl)
          rw [HR.out] at hi8
          have HU8 := Lib.hid ((HU.out.trans' HU7.out).trans hu8 (fun x hx => .inr (by have := List.mem_singleton.1 hx; omega)))
          have HI8 := Lib.hid hi8
          clear hG1 hG2 a0 a1 p0 p1 t1 hu8 HF7 hi7 hi8 HU7
          generalize (w7.setCell ⟨A, 0, none⟩ (.slice (some ⟨g7, off7, none⟩) 9 cap7)).setCell ⟨A, 1, none⟩ (.slice (some ⟨gr, offr, none⟩) (l.length + 1) rc) = w8 at *
          by_cases hcc : rc = 1
          · subst hcc
            obtain rfl : l = [] := List.eq_nil_of_length_eq_zero (by omega)
            have hv : Ints w8 (.slice (some ⟨gr, offr, none⟩) ([] : List Int).length 0) [] := Sub.none1 HI8.out
            obtain ⟨ao9, cap9, w9, ao10, cap10, w10, hr9, hu9, hr10, hi10, hu10, hn10⟩ := run_copy_push hv (by first | omega | decide) (m : Int)
            have HN10 := Lib.hid (fun x hx => .inr (Nat.le_trans HU8.out.size (hn10 x hx)) : ∀ x ∈ blkL (.slice ao10 (([] : List Int).length + 1) cap10), grow Y w x)
            clear hn10
            have hJ1 := hu10.keep0 hI1
            have hJ2 := hu10.keep0 hI2
            have HI10 := Lib.hid hi10
            have HU10 := Lib.hid (HU8.out.trans' hu10)
            have HF10 := Lib.hid (HF8.out.upd0 hu10)
            have HR9 := Lib.hid hr9
            have HR10 := Lib.hid hr10
            have t1 := lt_of_heap hI1
            have t2 := lt_of_heap (hu9.keep0 hI1)
            have t3 := lt_of_heap hJ1
            obtain ⟨a0, a1, -⟩ := cells2 hI1
            obtain ⟨b0, b1, p0, p1⟩ := cells2 hJ1
            clear hI1 hI2 hu9 hu10 hr9 hr10 hi10 hv HU8 HF8
            go_wp2_with (at_builtin; first | (refine wpList_append_run _ rfl _ _ 36 rfl rfl rfl HR9.out ?_; clear HR9) | (refine wpList_append_run _ rfl _ _ 36 rfl rfl rfl HR10.out ?_; clear HR10))
            have hK1 := hset2_1 (v := .slice ao10 (([] : List Int).length + 1) cap10) hJ1
            have hK2 := heap_setCell_ne (c := A) hJ2 (by omega) 1 (.slice ao10 (([] : List Int).length + 1) cap10)
            have hu11 : Upd [A] w10 (w10.setCell ⟨A, 1, none⟩ (.slice ao10 (([] : List Int).length + 1) cap10)) := (Upd.refl _ _).setCell (by simp) _
            have HF11 := Lib.hid (HF10.out.off hu11 (fun x hx => by have := List.mem_singleton.1 hx; subst this; exact ⟨_, _, hJ1, by decide, by decide⟩))
            have HI11 := Lib.hid (Sub.upd HI10.out hu11 (fun x hx hm => by
              obtain ⟨c2, h2⟩ := Sub.ty HI10.out x hx
              have := List.mem_singleton.1 hm; subst this
              exact cells_ne hJ1 h2 (by decide) rfl))
            have HU11 := Lib.hid (HU10.out.trans hu11 (fun x hx => .inr (by have := List.mem_singleton.1 hx; omega)))
            have HK1 := Lib.hid hK1
            have HK2 := Lib.hid hK2
            clear hJ1 hJ2 hK1 hK2 hu11 t1 t2 t3 a0 a1 b0 b1 p0 p1 HF10 HI10 HU10
            go_roundg (r'.spin m f []).meas
            case measure => exact hM2.out
            case rel =>
              refine ⟨_, _, _, rfl, HK1.out, HK2.out, ⟨updN cv m (.slice (some ⟨gc, offc, none⟩) (cs.length + 1) cc), ?_, HI11.out, HY.out.put m (fun x hx => .inr (HN7.out x hx)) HN10.out (fun x hx => HY.out.2.2 m hm x (by rw [HCV.out]; exact hx))⟩, hO2.out, ?_, HU11.out, hT2.out⟩
              · have hfe := HFE2.out
                have := HF11.out
                rw [← hfe] at this
                show FlsAt _ _ (Gof ⟨r'.put m (some { f.fresh with an := true }), _⟩) _
                rw [gof_put]
                exact this
              · intro j gf hj
                by_cases e : j = m
                · subst e
                  have := (Rg.put_same r' _ _).symm.trans hj
                  injection this with this; subst this
                  show f.fresh.cs.length ≤ K
                  rw [fresh_cs]; exact HSM.out _ f HFL.out
                · exact HSM.out j gf ((Rg.put_other r' _ e).symm.trans hj)
          · have hv : Ints w8 (.slice (some ⟨gr, offr + 1, none⟩) l.length (rc - 1)) l := Sub.tail1 HI8.out
            obtain ⟨ao9, cap9, w9, ao10, cap10, w10, hr9, hu9, hr10, hi10, hu10, hn10⟩ := run_copy_push hv (by first | omega | decide) (m : Int)
            have HN10 := Lib.hid (fun x hx => .inr (Nat.le_trans HU8.out.size (hn10 x hx)) : ∀ x ∈ blkL (.slice ao10 ((l : List Int).length + 1) cap10), grow Y w x)
            clear hn10
            have hJ1 := hu10.keep0 hI1
            have hJ2 := hu10.keep0 hI2
            have HI10 := Lib.hid hi10
            have HU10 := Lib.hid (HU8.out.trans' hu10)
            have HF10 := Lib.hid (HF8.out.upd0 hu10)
            have HR9 := Lib.hid hr9
            have HR10 := Lib.hid hr10
            have t1 := lt_of_heap hI1
            have t2 := lt_of_heap (hu9.keep0 hI1)
            have t3 := lt_of_heap hJ1
            obtain ⟨a0, a1, -⟩ := cells2 hI1
            obtain ⟨b0, b1, p0, p1⟩ := cells2 hJ1
            clear hI1 hI2 hu9 hu10 hr9 hr10 hi10 hv HU8 HF8
            go_wp2_with (at_builtin; first | (refine wpList_append_run _ rfl _ _ 36 rfl rfl rfl HR9.out ?_; clear HR9) | (refine wpList_append_run _ rfl _ _ 36 rfl rfl rfl HR10.out ?_; clear HR10))
            have hK1 := hset2_1 (v := .slice ao10 ((l : List Int).length + 1) cap10) hJ1
            have hK2 := heap_setCell_ne (c := A) hJ2 (by omega) 1 (.slice ao10 ((l : List Int).length + 1) cap10)
            have hu11 : Upd [A] w10 (w10.setCell ⟨A, 1, none⟩ (.slice ao10 ((l : List Int).length + 1) cap10)) := (Upd.refl _ _).setCell (by simp) _
            have HF11 := Lib.hid (HF10.out.off hu11 (fun x hx => by have := List.mem_singleton.1 hx; subst this; exact ⟨_, _, hJ1, by decide, by decide⟩))
            have HI11 := Lib.hid (Sub.upd HI10.out hu11 (fun x hx hm => by
              obtain ⟨c2, h2⟩ := Sub.ty HI10.out x hx
              have := List.mem_singleton.1 hm; subst this
              exact cells_ne hJ1 h2 (by decide) rfl))
            have HU11 := Lib.hid (HU10.out.trans hu11 (fun x hx => .inr (by have := List.mem_singleton.1 hx; omega)))
            have HK1 := Lib.hid hK1
            have HK2 := Lib.hid hK2
            clear hJ1 hJ2 hK1 hK2 hu11 t1 t2 t3 a0 a1 b0 b1 p0 p1 HF10 HI10 HU10
            go_roundg (r'.spin m f l).meas
            case measure => exact hM2.out
            case rel =>
              refine ⟨_, _, _, rfl, HK1.out, HK2.out, ⟨updN cv m (.slice (some ⟨gc, offc, none⟩) (cs.length + 1) cc), ?_, HI11.out, HY.out.put m (fun x hx => .inr (HN7.out x hx)) HN10.out (fun x hx => HY.out.2.2 m hm x (by rw [HCV.out]; exact hx))⟩, hO2.out, ?_, HU11.out, hT2.out⟩
              · have hfe := HFE2.out
                have := HF11.out
                rw [← hfe] at this
                show FlsAt _ _ (Gof ⟨r'.put m (some { f.fresh with an := true }), _⟩) _
                rw [gof_put]
                exact this
              · intro j gf hj
                by_cases e : j = m
                · subst e
                  have := (Rg.put_same r' _ _).symm.trans hj
                  injection this with this; subst this
                  show f.fresh.cs.length ≤ K
                  rw [fresh_cs]; exact HSM.out _ f HFL.out
                · exact HSM.out j gf ((Rg.put_other r' _ e).symm.trans hj)
end Go.Proofs.Ytabhdigannalgaa

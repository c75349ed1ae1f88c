/-
  GateLimits: without another configuration what is taken is never above its limit; a frame that is not OK takes nothing but its reply's room; what is taken is what came in and did not go out. For every configuration and list of steps. No condition.
-/
import Derived.Test.YtnhanldefebjbaaGateLim
import Derived.Deep.DeepCutAuto
import Derived.Deep.CutBlock
namespace Go.Proofs.Ytnhanldefebjbaa
open Go Go.RowKit Go.ChangeShapes Go.WideShapes Go.ChangeAt

set_option maxRecDepth 100000 in
set_option maxHeartbeats 8000000 in
theorem glimits_c (c : Cf) (b off cap : Nat) (l : List GStp) (w : World) (hlen : l.length ≤ 300) (hrows : RowsAt w b off 12 GStp.cells l) (hb : b < w.heap.size) (hgood : ∀ x ∈ l, x.good) :
    Trues 11 #[.agg c.cells, .slice (some ⟨b, off, none⟩) l.length cap] w := by
  unfold Trues
  have HRows := Lib.hid hrows
  have HGood := Lib.hid hgood
  have hmx := @maxR Try.prog
  have hmn := @minR Try.prog
  have hlf := load_field
  clear hrows hgood
  refine post fun R hR => ?_
  go_enter Try.func11, Try.ntmps11
  go_wp2_with (fail)
  refine Calls.mono (gnew_c c _) ?_
  rintro e w1 ⟨G, rfl, hg1, hu1, hG⟩
  have hC1 := hu1.keep0 (heap_alloc_new w (.cells c.cells 60))
  have hw1 : Upd [] w w1 := ((Upd.refl _ _).alloc _).trans' hu1
  replace hG : w.heap.size < G := by simp at hG; omega
  go_wp2_with (fail)
  go_loopw [6, 7, 8, 9] (fun m s o i wr => ∃ (k : Nat) (g : Gt), i = i64 k ∧ m = i64 g.mt ∧ s = i64 g.st ∧ o = i64 g.ot ∧ k ≤ l.length ∧ GtAt wr G g ∧ GLim c g ∧ wr.heap[w.heap.size]? = some (.cells c.cells 60 (0, 0)) ∧ Upd [] w wr)
    (fun _ _ _ i _ => l.length - (intOf i).toNat)
  case atStart => exact ⟨0, Gt.new c, rfl, rfl, rfl, rfl, Nat.zero_le _, hg1, glim_new c, hC1, hw1⟩
  case round =>
    clear hg1 hC1 hw1 hu1
    obtain ⟨k, g, rfl, rfl, rfl, rfl, hk, hg, hL, hC, hu⟩ := hrel
    by_cases hlt : k < l.length
    · have hrow := gsrow HRows.out hu hb (by simp) hlt
      have c0 := hrow 0 (by omega)
      have c1 := hrow 1 (by omega)
      have c2 := hrow 2 (by omega)
      have c3 := hrow 3 (by omega)
      have c4 := hrow 4 (by omega)
      have c5 := hrow 5 (by omega)
      have c6 := hrow 6 (by omega)
      have c7 := hrow 7 (by omega)
      have c8 := hrow 8 (by omega)
      have c9 := hrow 9 (by omega)
      have c10 := hrow 10 (by omega)
      have c11 := hrow 11 (by omega)
      have hgd := HGood.out l[k] (List.getElem_mem hlt)
      generalize l[k] = x at *
      obtain ⟨act, kd, n, q⟩ := x
      obtain ⟨q1, q2, q3, q4, q5, q6, q7, q8, q9⟩ := q
      clear hrow
      obtain ⟨n1, n2⟩ : -9223372036854775808 ≤ n ∧ n ≤ 9223372036854775807 := hgd

      simp only [GStp.cells, List.getElem?_cons_zero, List.getElem?_cons_succ, Nat.add_zero] at c0 c1 c2 c3 c4 c5 c6 c7 c8 c9 c10 c11
      go_upto_block 2 with (fail)
      have hg2 := heap_alloc_old hg (.cells #[i64 act, i64 kd, i64 n, i64 q1, i64 q2, i64 q3, i64 q4, i64 q5, i64 q6, i64 q7, i64 q8, i64 q9] 66)
      have hC2 := heap_alloc_old hC (.cells #[i64 act, i64 kd, i64 n, i64 q1, i64 q2, i64 q3, i64 q4, i64 q5, i64 q6, i64 q7, i64 q8, i64 q9] 66)
      have hS2 := heap_alloc_new wr (.cells #[i64 act, i64 kd, i64 n, i64 q1, i64 q2, i64 q3, i64 q4, i64 q5, i64 q6, i64 q7, i64 q8, i64 q9] 66)
      have hu2 := hu.alloc (.cells #[i64 act, i64 kd, i64 n, i64 q1, i64 q2, i64 q3, i64 q4, i64 q5, i64 q6, i64 q7, i64 q8, i64 q9] 66)
      have hGl := lt_of_heap hg
      clear hg hC hu c0 c1 c2 c3 c4 c5 c6 c7 c8 c9 c10 c11
      generalize wr.alloc _ = w2 at *
      obtain ⟨S, hSe⟩ : ∃ S, S = wr.heap.size := ⟨_, rfl⟩
      rw [← hSe] at hS2 hGl ⊢
      clear hSe
      obtain ⟨N, hN⟩ : ∃ N, N = max 0 (min n 1024) := ⟨_, rfl⟩
      have hN0 : 0 ≤ N := by omega
      have hN1 : N ≤ 1024 := by omega
      rw [← hN]
      have hcost : costN N = N + 16 := by unfold costN; omega
      clear hN
      obtain ⟨e0, e1, e2, -⟩ := cells12 hS2
      have b1 := hL.ok.t0
      have b2 := hL.ok.mt0
      have b3 := hL.ok.st0
      have b4 := hL.ok.ot0
      have b5 := hL.ok.u0
      have HL := Lib.hid hL
      have HCOST := Lib.hid hcost
      clear hL hcost
      go_cut [6, 7, 8] (fun m s o wc => ∃ g' : Gt, m = i64 g'.mt ∧ s = i64 g'.st ∧ o = i64 g'.ot ∧ GtAt wc G g' ∧ GLim c g' ∧ wc.heap[w.heap.size]? = some (.cells c.cells 60 (0, 0)) ∧ Upd [] w wc)
      case first =>
        by_cases ha1 : act = 1
        · have hq : (act == 1) = true := by simp [ha1]
          have HQ := Lib.hid ha1
          clear ha1
          have hadm := fun w' (hh : GtAt w' G g) => admit_c hh HL.out.ok kd N
          rcases adm_cases HL.out kd N with ⟨k3, e, o, g'⟩ | ⟨e, o, l', t', m', s', o'⟩ | ⟨a, e, o, l', t', m', s', o'⟩ | ⟨a, e, o, l', t', m', s', o'⟩
          · skip
            as_aux_lemma =>
              rw [e, o, g'] at hadm
              have HADM := Lib.hid hadm
              have hq3 : (kd == 3) = false := by simp [k3]
              have hq4 : (kd != 3) = true := by simp [k3]
              clear hadm e o g' k3
              go_wp2_with (fail)
              refine Calls.mono (gload2_c hg2) ?_
              rintro e w3 ⟨rfl, hu3⟩
              have hg3 := hu3.keep0 hg2
              have hS3 := hu3.keep0 hS2
              obtain ⟨s0, s1, s2, -⟩ := cells12 hS3
              clear e0 e1 e2
              go_wp2_with (fail)
              refine Calls.mono (HADM.out _ hg3) ?_
              rintro e w4 ⟨rfl, hu4, hg4⟩
              have hS4 := hu4.keep hS3 (by simp; omega)
              obtain ⟨s0, s1, s2, -⟩ := cells12 hS4
              go_wp2_with (fail)
              refine Calls.mono (gload2_c hg4) ?_
              rintro e w5 ⟨rfl, hu5⟩
              have hg5 := hu5.keep0 hg4
              have hS5 := hu5.keep0 hS4
              obtain ⟨s0, s1, s2, -⟩ := cells12 hS5
              have hC5 := hu5.keep0 (hu4.keep (hu3.keep0 hC2) (by simp; omega))
              have hu5' : Upd [] w w5 := ((hu2.trans' hu3).trans hu4 (by simp; omega)).trans' hu5
              go_wp2_with (fail)
              go_meet
              case rel => exact ⟨g, rfl, rfl, rfl, hg5, HL.out, hC5, hu5'⟩
          · have hx1 : (g.admE kd N == 0) = false := by simpa using e
            have hx2 : (g.admE kd N != 0) = true := by simpa using e
            rw [o] at hadm
            generalize g.admE kd N = X at *
            generalize g.admG kd N = g' at *
            clear e o
            by_cases k3 : kd = 3
            · skip
              as_aux_lemma =>
                subst k3
                rw [if_pos rfl] at o'
                rw [show decide ((3 : Int) ≠ 3) = false from rfl] at hadm
                have hld := fun w' (hh : GtAt w' G g') => gload2_c hh
                rw [t'] at hld
                have HLD := Lib.hid hld
                have HADM := Lib.hid hadm
                have HM' := Lib.hid m'
                have HS' := Lib.hid s'
                have HO' := Lib.hid o'
                have HL' := Lib.hid l'
                clear hld hadm m' s' o' l' t'
                go_wp2_with (fail)
                refine Calls.mono (gload2_c hg2) ?_
                rintro e w3 ⟨rfl, hu3⟩
                have hg3 := hu3.keep0 hg2
                have hS3 := hu3.keep0 hS2
                obtain ⟨s0, s1, s2, -⟩ := cells12 hS3
                clear e0 e1 e2
                go_wp2_with (fail)
                refine Calls.mono (HADM.out _ hg3) ?_
                rintro e w4 ⟨rfl, hu4, hg4⟩
                have hS4 := hu4.keep hS3 (by simp; omega)
                obtain ⟨s0, s1, s2, -⟩ := cells12 hS4
                go_wp2_with (fail)
                refine Calls.mono (HLD.out _ hg4) ?_
                rintro e w5 ⟨rfl, hu5⟩
                have hg5 := hu5.keep0 hg4
                have hS5 := hu5.keep0 hS4
                obtain ⟨s0, s1, s2, -⟩ := cells12 hS5
                have hC5 := hu5.keep0 (hu4.keep (hu3.keep0 hC2) (by simp; omega))
                have hu5' : Upd [] w w5 := ((hu2.trans' hu3).trans hu4 (by simp; omega)).trans' hu5
                go_wp2_with (fail)
                go_meet
                case rel => exact ⟨g', by rw [HM'.out], by rw [HS'.out], by rw [HO'.out], hg5, HL'.out, hC5, hu5'⟩
            · skip
              as_aux_lemma =>
                rw [if_neg k3] at o'
                rw [show decide (kd ≠ 3) = true from by simpa using k3] at hadm
                have hq3 : (kd == 3) = false := by simp [k3]
                have hq4 : (kd != 3) = true := by simp [k3]
                clear k3
                have hld := fun w' (hh : GtAt w' G g') => gload2_c hh
                rw [t'] at hld
                have HLD := Lib.hid hld
                have HADM := Lib.hid hadm
                have HM' := Lib.hid m'
                have HS' := Lib.hid s'
                have HO' := Lib.hid o'
                have HL' := Lib.hid l'
                clear hld hadm m' s' o' l' t'
                go_wp2_with (fail)
                refine Calls.mono (gload2_c hg2) ?_
                rintro e w3 ⟨rfl, hu3⟩
                have hg3 := hu3.keep0 hg2
                have hS3 := hu3.keep0 hS2
                obtain ⟨s0, s1, s2, -⟩ := cells12 hS3
                clear e0 e1 e2
                go_wp2_with (fail)
                refine Calls.mono (HADM.out _ hg3) ?_
                rintro e w4 ⟨rfl, hu4, hg4⟩
                have hS4 := hu4.keep hS3 (by simp; omega)
                obtain ⟨s0, s1, s2, -⟩ := cells12 hS4
                go_wp2_with (fail)
                refine Calls.mono (HLD.out _ hg4) ?_
                rintro e w5 ⟨rfl, hu5⟩
                have hg5 := hu5.keep0 hg4
                have hS5 := hu5.keep0 hS4
                obtain ⟨s0, s1, s2, -⟩ := cells12 hS5
                have hC5 := hu5.keep0 (hu4.keep (hu3.keep0 hC2) (by simp; omega))
                have hu5' : Upd [] w w5 := ((hu2.trans' hu3).trans hu4 (by simp; omega)).trans' hu5
                go_wp2_with (fail)
                go_meet
                case rel => exact ⟨g', by rw [HM'.out], by rw [HS'.out], by rw [HO'.out], hg5, HL'.out, hC5, hu5'⟩
          · rw [e, o] at hadm
            generalize g.admG kd N = g' at *
            rw [HCOST.out] at t' m'
            rw [show g.t - (N + 16) = g.t - N - 16 from by omega] at t'
            clear e o
            unfold asksB at a
            simp only [decide_eq_true_eq] at a
            rcases a with rfl | rfl | rfl | rfl | rfl
            all_goals first | (rw [if_neg (by decide)] at o') | (rw [if_pos rfl] at o')
            all_goals first | (rw [show decide ((3 : Int) ≠ 3) = false from rfl] at hadm) | (rw [show decide (_ ≠ (3 : Int)) = true from rfl] at hadm)
            all_goals
              skip
              as_aux_lemma =>
                have hld := fun w' (hh : GtAt w' G g') => gload2_c hh
                rw [t'] at hld
                have HLD := Lib.hid hld
                have HADM := Lib.hid hadm
                have HM' := Lib.hid m'
                have HS' := Lib.hid s'
                have HO' := Lib.hid o'
                have HL' := Lib.hid l'
                clear hld hadm m' s' o' l' t'
                go_wp2_with (fail)
                refine Calls.mono (gload2_c hg2) ?_
                rintro e w3 ⟨rfl, hu3⟩
                have hg3 := hu3.keep0 hg2
                have hS3 := hu3.keep0 hS2
                obtain ⟨s0, s1, s2, -⟩ := cells12 hS3
                clear e0 e1 e2
                go_wp2_with (fail)
                refine Calls.mono (HADM.out _ hg3) ?_
                rintro e w4 ⟨rfl, hu4, hg4⟩
                have hS4 := hu4.keep hS3 (by simp; omega)
                obtain ⟨s0, s1, s2, -⟩ := cells12 hS4
                go_wp2_with (fail)
                refine Calls.mono (HLD.out _ hg4) ?_
                rintro e w5 ⟨rfl, hu5⟩
                have hg5 := hu5.keep0 hg4
                have hS5 := hu5.keep0 hS4
                obtain ⟨s0, s1, s2, -⟩ := cells12 hS5
                have hC5 := hu5.keep0 (hu4.keep (hu3.keep0 hC2) (by simp; omega))
                have hu5' : Upd [] w w5 := ((hu2.trans' hu3).trans hu4 (by simp; omega)).trans' hu5
                go_wp2_with (fail)
                go_meet
                case rel => exact ⟨g', by rw [HM'.out], by rw [HS'.out], by rw [HO'.out], hg5, HL'.out, hC5, hu5'⟩
          · rw [e, o] at hadm
            generalize g.admG kd N = g' at *
            rw [HCOST.out] at t'
            rw [show g.t - (N + 16) = g.t - N - 16 from by omega] at t'
            clear e o
            have ha : ¬ (kd = 2 ∨ kd = 3 ∨ kd = 4 ∨ kd = 6 ∨ kd = 7) := by unfold asksB at a; simpa using a
            rw [if_neg (by omega)] at o'
            rw [show decide (kd ≠ 3) = true from by simp; omega] at hadm
            have hq3 : (kd == 3) = false := by simp; omega
            have hq4 : (kd != 3) = true := by simp; omega
            have hq6 : (kd == 6) = false := by simp; omega
            have hq7 : (kd == 7) = false := by simp; omega
            by_cases hk2 : kd < 2
            · clear a ha
              as_aux_lemma =>
                have hld := fun w' (hh : GtAt w' G g') => gload2_c hh
                rw [t'] at hld
                have HLD := Lib.hid hld
                have HADM := Lib.hid hadm
                have HM' := Lib.hid m'
                have HS' := Lib.hid s'
                have HO' := Lib.hid o'
                have HL' := Lib.hid l'
                clear hld hadm m' s' o' l' t'
                go_wp2_with (fail)
                refine Calls.mono (gload2_c hg2) ?_
                rintro e w3 ⟨rfl, hu3⟩
                have hg3 := hu3.keep0 hg2
                have hS3 := hu3.keep0 hS2
                obtain ⟨s0, s1, s2, -⟩ := cells12 hS3
                clear e0 e1 e2
                go_wp2_with (fail)
                refine Calls.mono (HADM.out _ hg3) ?_
                rintro e w4 ⟨rfl, hu4, hg4⟩
                have hS4 := hu4.keep hS3 (by simp; omega)
                obtain ⟨s0, s1, s2, -⟩ := cells12 hS4
                go_wp2_with (fail)
                refine Calls.mono (HLD.out _ hg4) ?_
                rintro e w5 ⟨rfl, hu5⟩
                have hg5 := hu5.keep0 hg4
                have hS5 := hu5.keep0 hS4
                obtain ⟨s0, s1, s2, -⟩ := cells12 hS5
                have hC5 := hu5.keep0 (hu4.keep (hu3.keep0 hC2) (by simp; omega))
                have hu5' : Upd [] w w5 := ((hu2.trans' hu3).trans hu4 (by simp; omega)).trans' hu5
                go_wp2_with (fail)
                go_meet
                case rel => exact ⟨g', by rw [HM'.out], by rw [HS'.out], by rw [HO'.out], hg5, HL'.out, hC5, hu5'⟩
            · have hk4 : 4 < kd := by omega
              clear a ha
              as_aux_lemma =>
                have hld := fun w' (hh : GtAt w' G g') => gload2_c hh
                rw [t'] at hld
                have HLD := Lib.hid hld
                have HADM := Lib.hid hadm
                have HM' := Lib.hid m'
                have HS' := Lib.hid s'
                have HO' := Lib.hid o'
                have HL' := Lib.hid l'
                clear hld hadm m' s' o' l' t'
                go_wp2_with (fail)
                refine Calls.mono (gload2_c hg2) ?_
                rintro e w3 ⟨rfl, hu3⟩
                have hg3 := hu3.keep0 hg2
                have hS3 := hu3.keep0 hS2
                obtain ⟨s0, s1, s2, -⟩ := cells12 hS3
                clear e0 e1 e2
                go_wp2_with (fail)
                refine Calls.mono (HADM.out _ hg3) ?_
                rintro e w4 ⟨rfl, hu4, hg4⟩
                have hS4 := hu4.keep hS3 (by simp; omega)
                obtain ⟨s0, s1, s2, -⟩ := cells12 hS4
                go_wp2_with (fail)
                refine Calls.mono (HLD.out _ hg4) ?_
                rintro e w5 ⟨rfl, hu5⟩
                have hg5 := hu5.keep0 hg4
                have hS5 := hu5.keep0 hS4
                obtain ⟨s0, s1, s2, -⟩ := cells12 hS5
                have hC5 := hu5.keep0 (hu4.keep (hu3.keep0 hC2) (by simp; omega))
                have hu5' : Upd [] w w5 := ((hu2.trans' hu3).trans hu4 (by simp; omega)).trans' hu5
                go_wp2_with (fail)
                go_meet
                case rel => exact ⟨g', by rw [HM'.out], by rw [HS'.out], by rw [HO'.out], hg5, HL'.out, hC5, hu5'⟩
        · have hq : (act == 1) = false := by simp [ha1]
          have HQ := Lib.hid ha1
          clear ha1
          by_cases ha2 : act = 2
          · have hq2 : (act == 2) = true := by simp [ha2]
            have HQ2 := Lib.hid ha2
            clear ha2
            have hs := gserve_c hg2 HL.out.ok N
            obtain ⟨l', o', hc⟩ := glim_serv HL.out N
            rcases hc with ⟨e, m', s'⟩ | ⟨e, m', s'⟩
            all_goals
              skip
              as_aux_lemma =>
                rw [e] at hs
                first | (rw [HCOST.out] at m') | skip
                generalize g.serv N = g' at *
                have HSV := Lib.hid hs
                have HM' := Lib.hid m'
                have HS' := Lib.hid s'
                have HO' := Lib.hid o'
                have HL' := Lib.hid l'
                clear hs m' s' o' l' e
                go_wp2_with (fail)
                refine Calls.mono HSV.out ?_
                rintro e w4 ⟨rfl, hu4, hg5⟩
                have hC5 := hu4.keep hC2 (by simp; omega)
                have hu5' : Upd [] w w4 := hu2.trans hu4 (by simp; omega)
                go_wp2_with (fail)
                go_meet
                case rel => exact ⟨g', by rw [HM'.out], by rw [HS'.out], by rw [HO'.out], hg5, HL'.out, hC5, hu5'⟩
          · have hq2 : (act == 2) = false := by simp [ha2]
            have HQ2 := Lib.hid ha2
            clear ha2
            by_cases ha3 : act = 3
            · have hq3 : (act == 3) = true := by simp [ha3]
              have HQ3 := Lib.hid ha3
              clear ha3
              have hs := gdeliver_c hg2 HL.out.ok
              obtain ⟨l', m', s', o', hdd⟩ := glim_deliv HL.out
              have hde : g.delivE = 0 ∨ g.delivE = 1 := by unfold Gt.delivE; split <;> simp
              generalize g.deliv = g' at *
              generalize g.delivE = E at *
              have HSV := Lib.hid hs
              have HM' := Lib.hid m'
              have HS' := Lib.hid s'
              have HO' := Lib.hid o'
              have HL' := Lib.hid l'
              clear hs m' s' o' l'
              rcases hde with rfl | rfl
              all_goals
                first
                | (have hpos : 0 < g.ot := by simpa using hdd
                   clear hdd
                   go_wp2_with (fail)
                   refine Calls.mono HSV.out ?_
                   rintro e w4 ⟨rfl, hu4, hg5⟩
                   have hC5 := hu4.keep hC2 (by simp; omega)
                   have hu5' : Upd [] w w4 := hu2.trans hu4 (by simp; omega)
                   go_wp2_with (fail)
                   go_meet
                   case rel => exact ⟨g', by rw [HM'.out], by rw [HS'.out], by rw [HO'.out], hg5, HL'.out, hC5, hu5'⟩)
                | (have hpos : ¬ 0 < g.ot := by simpa using hdd
                   have hz : g.ot ≤ 0 := by omega
                   clear hdd hpos
                   go_wp2_with (fail)
                   refine Calls.mono HSV.out ?_
                   rintro e w4 ⟨rfl, hu4, hg5⟩
                   have hC5 := hu4.keep hC2 (by simp; omega)
                   have hu5' : Upd [] w w4 := hu2.trans hu4 (by simp; omega)
                   go_wp2_with (fail)
                   go_meet
                   case rel => exact ⟨g', by rw [HM'.out], by rw [HS'.out], by rw [HO'.out], hg5, HL'.out, hC5, hu5'⟩)
            · have hq3 : (act == 3) = false := by simp [ha3]
              have HQ3 := Lib.hid ha3
              clear ha3
              by_cases ha5 : act = 5
              · have hq5 : (act == 5) = true := by simp [ha5]
                have HQ5 := Lib.hid ha5
                clear ha5
                as_aux_lemma =>
                  have hs := fun x => grest_c hg2 x
                  have HSV := Lib.hid hs
                  clear hs
                  go_wp2_with (fail)
                  refine Calls.mono (HSV.out _) ?_
                  rintro e w4 ⟨rfl, hu4, hg5⟩
                  have hC5 := hu4.keep hC2 (by simp; omega)
                  have hu5' : Upd [] w w4 := hu2.trans hu4 (by simp; omega)
                  go_wp2_with (fail)
                  go_meet
                  case rel => exact ⟨g.rest (n.tmod 2 != 0), rfl, rfl, rfl, hg5, glim_rest HL.out _, hC5, hu5'⟩
              · have hq5 : (act == 5) = false := by simp [ha5]
                have HQ5 := Lib.hid ha5
                clear ha5
                go_wp2_with (fail)
                refine Calls.mono (gtick_c hg2 HL.out.ok) ?_
                rintro e w4 ⟨rfl, hu4, hg5⟩
                have hC5 := hu4.keep hC2 (by simp; omega)
                have hu5' : Upd [] w w4 := hu2.trans hu4 (by simp; omega)
                go_wp2_with (fail)
                go_meet
                case rel => exact ⟨g.tick, rfl, rfl, rfl, hg5, glim_tick HL.out, hC5, hu5'⟩
      case rest =>
        obtain ⟨g', rfl, rfl, rfl, hg3, hL3, hC3, hu3⟩ := hcut
        obtain ⟨q1, q2, q3, q4, q5⟩ := glim_end hL3
        clear b1 b2 b3 b4 b5 e0 e1 e2 hS2 hg2 hC2 hu2
        have HL3 := Lib.hid hL3
        clear hL3
        go_wp2_with (fail)
        refine Calls.mono (gload2_c hg3) ?_
        rintro e w5 ⟨rfl, hu5⟩
        have hC5 := hu5.keep0 hC3
        obtain ⟨d0, d1, d2, d3, d4, d5, -⟩ := cells9 hC5
        have hlt5 := lt_of_heap hC5
        go_wp2_with (fail)
        go_roundw
        case rel => exact ⟨k + 1, g', by go_num, rfl, rfl, rfl, by omega, heap_alloc_old (hu5.keep0 hg3) _, HL3.out, heap_alloc_old hC5 _, (hu3.trans' hu5).alloc _⟩
        case measure => simp [intOf]; omega
    · have e : k = l.length := by omega
      go_wp2_with (fail)
      refine Calls.mono (gawake_c _) ?_
      rintro e w5 ⟨rfl, hu5⟩
      go_wp2_with (fail)
      exact hR.out _ _ ⟨rfl, hu.trans' hu5⟩

set_option maxRecDepth 100000 in
theorem glimits0_c (c : Cf) (ao : Option Addr) (cap : Nat) (w : World) : Trues 11 #[.agg c.cells, .slice ao 0 cap] w := by
  unfold Trues
  refine post fun R hR => ?_
  go_enter Try.func11, Try.ntmps11
  go_wp2_with (fail)
  refine Calls.mono (gnew_c c _) ?_
  rintro e w1 ⟨G, rfl, hg1, hu1, hG⟩
  go_wp2_with (fail)
  refine wp_loop_once ?_
  go_wp2_with (fail)
  refine Calls.mono (gawake_c _) ?_
  rintro e w5 ⟨rfl, hu5⟩
  go_wp2_with (fail)
  exact hR.out _ _ ⟨rfl, (((Upd.refl _ _).alloc _).trans' hu1).trans' hu5⟩

set_option maxRecDepth 100000 in
theorem glimits9_c (c : Cf) (ao : Option Addr) (n cap : Nat) (w : World) (hn : 300 < n) : Trues 11 #[.agg c.cells, .slice ao n cap] w := by
  unfold Trues
  refine post fun R hR => ?_
  go_enter Try.func11, Try.ntmps11
  go_wp2_with (fail)
  refine Calls.mono (gawake_c _) ?_
  rintro e w5 ⟨rfl, hu5⟩
  go_wp2_with (fail)
  exact hR.out _ _ ⟨rfl, ((Upd.refl _ _).alloc _).trans' hu5⟩

set_option maxRecDepth 100000 in
theorem gateLimits_walk {H : Type} {enc : TypeId × Value → H} {W : World} {base : Nat} {args : Array Value} {ds gs : List (DataW H)} {before : List MemPlace}
    (hval : ∀ (j : Nat) t v, Try.f11.params[j]? = some t → args[j]? = some v → Value.okWide Try.prog W .any base t v)
    (hW : DataW.Whole enc Try.prog Try.f11.params.toList [] false W args.toList ds gs before) : Trues 11 args W := by
  obtain ⟨p, q, hA, -, rfl, -, -⟩ := hW
  rw [Try.params11] at hA hval
  obtain ⟨v0, v1, d0, d1, p0, p1, rfl, rfl, rfl, h0, h1⟩ := trodAll_two hA
  obtain ⟨vs, rfl, hvs⟩ := open_struct Try.underlying60 flat_conf (hval 0 60 v0 rfl rfl) h0
  obtain ⟨c, rfl⟩ := Cf.parse vs hvs
  obtain ⟨ao, cap, l, rfl, hlc, hcap, hg, hl⟩ := open_list GStp.parse Try.underlying61 flat_gstep cells_gstep (by decide) (hval 1 61 v1 rfl rfl) h1
  by_cases hbig : 300 < l.length
  · exact glimits9_c c ao l.length cap W hbig
  · rcases hl with rfl | ⟨b, off, rfl, hr⟩
    · exact glimits0_c c ao cap W
    · cases l with
      | nil => exact glimits0_c c _ cap W
      | cons x r =>
        exact glimits_c c b off cap (x :: r) W (by omega) hr (World.block_lt_of_cell? W _ (hr 0 x rfl 0 (by decide))) hg

set_option maxRecDepth 100000 in
theorem gateLimits_lifted (os : Os) (started : os.Started) (H : Type) (enc : TypeId × Value → H) :
    ReturnsInHanded {} Try.checked os 11 .any (Rows.gateLimitsSpec.pre6 enc Try.prog Try.f11 Rows.gateLimitsRow.domain false) (Rows.gateLimitsSpec.post enc Try.prog Try.f11 false true false false) := by
  refine returnsInHanded_of_change (C := Try.checked) own started (by kernel_rfl) Try.func11
    (ChangeSpec.witness6 (enc := enc) (C := Try.checked) false ⟨#[], #[.agg #[.int .i64 0, .int .i64 0, .int .i64 0, .int .i64 0, .int .i64 0, .int .i64 0, .int .i64 0, .int .i64 0, .int .i64 0], .slice none 0 0], []⟩ 8 (by kernel_rfl) (by kernel_rfl) (by kernel_rfl) (by kernel_rfl)) ?_
  intro W base args ds gs before hval hW hcnd _
  refine Calls.mono (gateLimits_walk hval hW) fun e W' ⟨he, hu⟩ => ?_
  exact ⟨_, he, law_post rfl rfl (by kernel_rfl) hW (fun ds h => by match ds, h with | [_, _], _ => rfl) hu⟩

set_option maxRecDepth 100000 in
theorem gateLimits_over : Rows.gateLimitsRow.holds Try.pinned (OpenSpec.ofChange Rows.gateLimitsSpec) :=
  OpenClaim.holds_of_wide 11 Try.f11 rfl rfl rfl rfl rfl rfl rfl ⟨rfl, rfl, rfl, rfl, rfl⟩ rfl rfl rfl rfl rfl (by kernel_rfl) Try.func11 (by kernel_rfl)
    (of_decide_eq_true (by kernel_rfl)) (by unfold Func.isWrapper; first | (rw [if_pos (by decide +kernel)]; kernel_rfl) | (rw [if_neg (by decide +kernel)]; exact ⟨rfl, rfl⟩))
    (fun os started H enc _ => gateLimits_lifted os started H enc)

theorem gateLimits_proved : Rows.GateLimitsSaid := gateLimits_over
end Go.Proofs.Ytnhanldefebjbaa

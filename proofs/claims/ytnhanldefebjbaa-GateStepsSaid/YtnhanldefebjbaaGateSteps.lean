/-
  GateSteps: what comes out of any frames, and of all else that is done to a gate, and what is taken behind each. For every configuration and list of steps. No condition.
-/
import Derived.Test.YtnhanldefebjbaaGateRef3
namespace Go.Proofs.Ytnhanldefebjbaa
open Go Go.RowKit Go.ChangeShapes Go.WideShapes Go.ChangeAt

abbrev RgAt (w : World) (b : Nat) (g : Gt) : Prop := w.heap[b]? = some (.cells g.cells 79 (0, 0))

theorem Gt.ok.set {g : Gt} (ok : g.ok) (c : Cf) : (g.set c).ok := by
  have h1 := ok.t0
  have h2 := ok.u0
  unfold Gt.set
  refine ⟨?_, ?_, ?_, ?_, ok.mt0, ?_, ok.st0, ?_, ok.ot0⟩
  · show 0 ≤ clamp c.rate 1048576 ∧ clamp c.rate 1048576 ≤ 1048576; unfold clamp; omega
  · show 0 ≤ clamp c.burst 1048576 ∧ clamp c.burst 1048576 ≤ 1048576; unfold clamp; omega
  · show 0 ≤ min g.t (clamp c.burst 1048576) ∧ min g.t (clamp c.burst 1048576) ≤ clamp c.burst 1048576; unfold clamp; omega
  · show 0 ≤ lim c.mem ∧ lim c.mem ≤ 1048576; unfold lim; omega
  · show 0 ≤ lim c.slots ∧ lim c.slots ≤ 1048576; unfold lim; omega
  · show 0 ≤ lim c.outs ∧ lim c.outs ≤ 1048576; unfold lim; omega
theorem Gt.ok.tick {g : Gt} (ok : g.ok) : g.tick.ok := by
  have h1 := ok.t0
  have h2 := ok.r0
  exact ⟨ok.r0, ok.u0, by show 0 ≤ min (g.t + g.r) g.u ∧ min (g.t + g.r) g.u ≤ g.u; omega, ok.ml0, ok.mt0, ok.sl0, ok.st0, ok.ol0, ok.ot0⟩
theorem Gt.ok.rest {g : Gt} (ok : g.ok) (x : Bool) : (g.rest x).ok := ⟨ok.r0, ok.u0, ok.t0, ok.ml0, ok.mt0, ok.sl0, ok.st0, ok.ol0, ok.ot0⟩
theorem Gt.ok.deliv {g : Gt} (ok : g.ok) : g.deliv.ok := by
  have h1 := ok.ot0
  unfold Gt.deliv; split
  · exact ok
  · exact ⟨ok.r0, ok.u0, ok.t0, ok.ml0, ok.mt0, ok.sl0, ok.st0, ok.ol0, by show 0 ≤ g.ot - 1 ∧ g.ot - 1 ≤ 1048576; omega⟩
theorem Gt.ok.serv {g : Gt} (ok : g.ok) (n : Int) : (g.serv n).ok := by
  have h1 := ok.mt0
  have h2 := ok.st0
  have hc := costN_bd n
  unfold Gt.serv; split
  · exact ok
  · exact ⟨ok.r0, ok.u0, ok.t0, ok.ml0, by show 0 ≤ g.mt - costN n ∧ g.mt - costN n ≤ 1048576; omega, ok.sl0, by show 0 ≤ g.st - 1 ∧ g.st - 1 ≤ 1048576; omega, ok.ol0, ok.ot0⟩

theorem wpl_load_gate {ops : Array Oper} {rest : List Oper} {o : Oper} {a : Act} {w : World} {Q : Exit → Act → World → Prop} {x : Operand} {b : Nat} {g : Gt} (hgd : o.guard = none) (ho : o.op = .load 79 x)
    (hx : a.eval x = .pointer (some ⟨b, 0, none⟩)) (hg : RgAt w b g) (h : wpList Try.prog ops Q rest (a.put o.dst (gv g)) w) : wpList Try.prog ops Q (o :: rest) a w :=
  wpList_load_row hgd _ x ho b hx _ g.cells _ _ hg Try.underlying79 rfl (by show _ = some 10; kernel_rfl) h
theorem wpl_store_gate {ops : Array Oper} {rest : List Oper} {o : Oper} {a : Act} {w : World} {Q : Exit → Act → World → Prop} {x y : Operand} {b : Nat} {g : Gt} {old : Array Value} (hgd : o.guard = none) (ho : o.op = .store 79 x y)
    (hx : a.eval x = .pointer (some ⟨b, 0, none⟩)) (hy : a.eval y = gv g) (hg : w.heap[b]? = some (.cells old 79 (0, 0))) (hold : old.size = 10)
    (h : ∀ w', RgAt w' b g → Upd [b] w w' → wpList Try.prog ops Q rest (a.put o.dst undef) w') : wpList Try.prog ops Q (o :: rest) a w := by
  refine wpList_store_row hgd _ x y ho b g.cells hx hy _ old hg (by show _ = some 10; kernel_rfl) (by rw [hold]; rfl) (by simp [Gt.cells, Value.oneCell']) (h _ (setRow_heap w b old g.cells _ (0, 0) hg) ⟨rfl, rfl, rfl, by simp [World.setRow], fun k _ hk => setRow_other w b k _ (fun e => hk (by simp [e]))⟩)

set_option maxRecDepth 100000 in
set_option maxHeartbeats 8000000 in
theorem gsteps_c (c : Cf) (b off cap : Nat) (l : List GStp) (w : World) (hlen : l.length ≤ 300) (hrows : RowsAt w b off 12 GStp.cells l) (hb : b < w.heap.size) (hgood : ∀ x ∈ l, x.good) :
    Trues 12 #[.agg c.cells, .slice (some ⟨b, off, none⟩) l.length cap] w := by
  unfold Trues
  have HRows := Lib.hid hrows
  have HGood := Lib.hid hgood
  clear hrows hgood
  refine post fun R hR => ?_
  go_enter Try.func12, Try.ntmps12
  go_wp2_with (fail)
  refine Calls.mono (gnew_c c _) ?_
  rintro e w1 ⟨G, rfl, hg1, hu1, hG⟩
  have hC1 := hu1.keep0 (heap_alloc_new w (.cells c.cells 60))
  have hw1 : Upd [] w w1 := ((Upd.refl _ _).alloc _).trans' hu1
  replace hG : w.heap.size < G := by simp at hG; omega
  obtain ⟨c0, c1, c2, c3, c4, c5, c6, c7, c8, -⟩ := cells9 hC1
  go_wp2_with (fail)
  refine Calls.mono (rgnew_c c _) ?_
  rintro e w2 ⟨rfl, hu2⟩
  have hg2 := heap_alloc_old (hu2.keep0 hg1) (.cells (Gt.new c).cells 79)
  have hB2 := heap_alloc_new w2 (.cells (Gt.new c).cells 79)
  have hw2 : Upd [] w (w2.alloc (.cells (Gt.new c).cells 79)) := (hw1.trans' hu2).alloc _
  have hGB : G < w2.heap.size := lt_of_heap (hu2.keep0 hg1)
  have hwB := (hw1.trans' hu2).size
  have hok := (glim_new c).ok
  generalize Gt.new c = g0 at *
  clear c0 c1 c2 c3 c4 c5 c6 c7 c8 hg1 hC1 hw1 hu1 hu2
  go_wp2_with (fail)
  generalize w2.heap.size = B at *
  generalize hw3 : w2.alloc _ = w3 at *
  clear hw3
  go_loopw [7] (fun i wr => ∃ (k : Nat) (g : Gt), i = i64 k ∧ k ≤ l.length ∧ GtAt wr G g ∧ RgAt wr B g ∧ g.ok ∧ Upd [] w wr)
    (fun i _ => l.length - (intOf i).toNat)
  case atStart => exact ⟨0, g0, rfl, Nat.zero_le _, hg2, hB2, hok, hw2⟩
  case round =>
    clear hg2 hB2 hok hw2
    obtain ⟨k, g, rfl, hk, hg, hB, hok, hu⟩ := hrel
    by_cases hlt : k < l.length
    · have hrow := gsrow HRows.out hu hb (by simp) hlt
      have c0 := hrow 0 (by omega)
      have c1 := hrow 1 (by omega)
      have c2 := hrow 2 (by omega)
      have c3 := hrow 3 (by omega)
      have c4 := hrow 4 (by omega)
      have c5 := hrow 5 (by omega)
      have c6 := hrow 6 (by omega)
      have c7 := hrow 7 (by omega)
      have c8 := hrow 8 (by omega)
      have c9 := hrow 9 (by omega)
      have c10 := hrow 10 (by omega)
      have c11 := hrow 11 (by omega)
      have hgd := HGood.out l[k] (List.getElem_mem hlt)
      generalize l[k] = x at *
      obtain ⟨act, kd, n, q⟩ := x
      obtain ⟨q1, q2, q3, q4, q5, q6, q7, q8, q9⟩ := q
      clear hrow
      obtain ⟨n1, n2⟩ : -9223372036854775808 ≤ n ∧ n ≤ 9223372036854775807 := hgd
      simp only [GStp.cells, List.getElem?_cons_zero, List.getElem?_cons_succ, Nat.add_zero] at c0 c1 c2 c3 c4 c5 c6 c7 c8 c9 c10 c11
      have HOK0 := Lib.hid hok
      clear hok
      go_upto_block 2 with (fail)
      have hg3 := heap_alloc_old hg (.cells #[i64 act, i64 kd, i64 n, i64 q1, i64 q2, i64 q3, i64 q4, i64 q5, i64 q6, i64 q7, i64 q8, i64 q9] 66)
      have hB3 := heap_alloc_old hB (.cells #[i64 act, i64 kd, i64 n, i64 q1, i64 q2, i64 q3, i64 q4, i64 q5, i64 q6, i64 q7, i64 q8, i64 q9] 66)
      have hS3 := heap_alloc_new wr (.cells #[i64 act, i64 kd, i64 n, i64 q1, i64 q2, i64 q3, i64 q4, i64 q5, i64 q6, i64 q7, i64 q8, i64 q9] 66)
      have hx3 := hu.alloc (.cells #[i64 act, i64 kd, i64 n, i64 q1, i64 q2, i64 q3, i64 q4, i64 q5, i64 q6, i64 q7, i64 q8, i64 q9] 66)
      have hGl := lt_of_heap hg
      have hBl := lt_of_heap hB
      clear hg hB hu c0 c1 c2 c3 c4 c5 c6 c7 c8 c9 c10 c11
      generalize wr.alloc _ = w3 at *
      obtain ⟨S, hSe⟩ : ∃ S, S = wr.heap.size := ⟨_, rfl⟩
      rw [← hSe] at hS3 hGl hBl ⊢
      clear hSe
      obtain ⟨e0, e1, e2, -⟩ := cells12 hS3
      go_cut [] (fun wc => ∃ g' : Gt, GtAt wc G g' ∧ RgAt wc B g' ∧ g'.ok ∧ Upd [] w wc)
      case first =>
        by_cases ha1 : act = 1
        · skip
          as_aux_lemma =>
            have hq : (act == 1) = true := by simp [ha1]
            have HREF := Lib.hid (fun w' => rgadmit_c g HOK0.out kd n w')
            have HPRG := Lib.hid (fun w' (hh : GtAt w' G g) => admit_c hh HOK0.out kd n)
            have HOK := Lib.hid (HOK0.out.admG kd n)
            generalize g.admG kd n = g' at *
            generalize g.admE kd n = E at *
            generalize g.admO kd = O at *
            clear ha1
            clear e0 e1 e2
            obtain ⟨e0, e1, e2, -⟩ := cells12 hS3
            go_wp2_with (first | ((with_reducible apply wpl_load_gate); rfl; rfl; rfl; exact hB3))
            refine Calls.mono (HREF.out _) ?_
            rintro e w4 ⟨rfl, hu4⟩
            have hB4 := hu4.keep0 hB3
            have hg4 := hu4.keep0 hg3
            have hS4 := hu4.keep0 hS3
            have hx4 := hx3.trans' hu4
            clear hu4 hB3 hg3 hS3 hx3 e0 e1 e2
            have s4 : B < w4.heap.size := lt_of_heap hB4
            have s5 : G < w4.heap.size := lt_of_heap hg4
            have s6 : S < w4.heap.size := lt_of_heap hS4
            go_upto_region 14 with (first | ((with_reducible apply wpl_store_gate); rfl; rfl; rfl; rfl; exact heap_alloc_new _ _; rfl; intro w5 hX5 hu5))
            have hv5 : Upd [] w4 w5 := (((Upd.refl [] w4).alloc _).trans hu5 (fun x hx => .inr (by simp at hx; subst hx; exact Nat.le_refl _)))
            have hB5 := hv5.keep0 hB4
            have hg5 := hv5.keep0 hg4
            have hS5 := hv5.keep0 hS4
            have hx5 := hx4.trans' hv5
            have hXB : B ≠ w4.heap.size := by omega
            clear hu5 hv5 hB4 hg4 hS4 hx4
            generalize w4.heap.size = X at *
            go_upto_region 15 with (first | ((with_reducible apply wpl_load_gate); rfl; rfl; rfl; exact hX5) | ((with_reducible apply wpl_store_gate); rfl; rfl; rfl; rfl; exact hB5; rfl; intro w6 hB6 hu6))
            have hg6 := hu6.keep hg5 (by simp; omega)
            have hS6 := hu6.keep hS5 (by simp; omega)
            have hx6 := hx5.trans hu6 (by simp; omega)
            clear hu6 hB5 hg5 hS5 hx5 hX5
            obtain ⟨e0, e1, e2, -⟩ := cells12 hS6
            go_wp2_with (fail)
            refine Calls.mono (HPRG.out _ hg6) ?_
            rintro e w7 ⟨rfl, hu7, hg7⟩
            have hB7 := hu7.keep hB6 (by simp; omega)
            have hx7 := hx6.trans hu7 (by simp; omega)
            clear hu7 hB6 hg6 hS6 hx6 e0 e1 e2
            go_wp2_with (fail)
            go_meet
            case rel => exact ⟨g', hg7, hB7, HOK.out, hx7⟩
        · have hq1 : (act == 1) = false := by simp [ha1]
          have HQ1 := Lib.hid ha1
          clear ha1
          by_cases ha2 : act = 2
          · skip
            as_aux_lemma =>
              have hq : (act == 2) = true := by simp [ha2]
              have HREF := Lib.hid (fun w' => rgserve_c g HOK0.out n w')
              have HPRG := Lib.hid (fun w' (hh : GtAt w' G g) => gserve_c hh HOK0.out n)
              have HOK := Lib.hid (HOK0.out.serv n)
              generalize g.serv n = g' at *
              generalize g.servE n = E at *
              clear ha2
              clear e0 e1 e2
              obtain ⟨e0, e1, e2, -⟩ := cells12 hS3
              go_wp2_with (first | ((with_reducible apply wpl_load_gate); rfl; rfl; rfl; exact hB3))
              refine Calls.mono (HREF.out _) ?_
              rintro e w4 ⟨rfl, hu4⟩
              have hB4 := hu4.keep0 hB3
              have hg4 := hu4.keep0 hg3
              have hS4 := hu4.keep0 hS3
              have hx4 := hx3.trans' hu4
              clear hu4 hB3 hg3 hS3 hx3 e0 e1 e2
              have s4 : B < w4.heap.size := lt_of_heap hB4
              have s5 : G < w4.heap.size := lt_of_heap hg4
              have s6 : S < w4.heap.size := lt_of_heap hS4
              go_upto_region 20 with (first | ((with_reducible apply wpl_store_gate); rfl; rfl; rfl; rfl; exact heap_alloc_new _ _; rfl; intro w5 hX5 hu5))
              have hv5 : Upd [] w4 w5 := (((Upd.refl [] w4).alloc _).trans hu5 (fun x hx => .inr (by simp at hx; subst hx; exact Nat.le_refl _)))
              have hB5 := hv5.keep0 hB4
              have hg5 := hv5.keep0 hg4
              have hS5 := hv5.keep0 hS4
              have hx5 := hx4.trans' hv5
              have hXB : B ≠ w4.heap.size := by omega
              clear hu5 hv5 hB4 hg4 hS4 hx4
              generalize w4.heap.size = X at *
              go_upto_region 21 with (first | ((with_reducible apply wpl_load_gate); rfl; rfl; rfl; exact hX5) | ((with_reducible apply wpl_store_gate); rfl; rfl; rfl; rfl; exact hB5; rfl; intro w6 hB6 hu6))
              have hg6 := hu6.keep hg5 (by simp; omega)
              have hS6 := hu6.keep hS5 (by simp; omega)
              have hx6 := hx5.trans hu6 (by simp; omega)
              clear hu6 hB5 hg5 hS5 hx5 hX5
              obtain ⟨e0, e1, e2, -⟩ := cells12 hS6
              go_wp2_with (fail)
              refine Calls.mono (HPRG.out _ hg6) ?_
              rintro e w7 ⟨rfl, hu7, hg7⟩
              have hB7 := hu7.keep hB6 (by simp; omega)
              have hx7 := hx6.trans hu7 (by simp; omega)
              clear hu7 hB6 hg6 hS6 hx6 e0 e1 e2
              go_wp2_with (fail)
              go_meet
              case rel => exact ⟨g', hg7, hB7, HOK.out, hx7⟩
          · have hq2 : (act == 2) = false := by simp [ha2]
            have HQ2 := Lib.hid ha2
            clear ha2
            by_cases ha3 : act = 3
            · skip
              as_aux_lemma =>
                have hq : (act == 3) = true := by simp [ha3]
                have HREF := Lib.hid (fun w' => rgdeliver_c g HOK0.out w')
                have HPRG := Lib.hid (fun w' (hh : GtAt w' G g) => gdeliver_c hh HOK0.out)
                have HOK := Lib.hid HOK0.out.deliv
                generalize g.deliv = g' at *
                generalize g.delivE = E at *
                clear ha3
                clear e0 e1 e2
                obtain ⟨e0, e1, e2, -⟩ := cells12 hS3
                go_wp2_with (first | ((with_reducible apply wpl_load_gate); rfl; rfl; rfl; exact hB3))
                refine Calls.mono (HREF.out _) ?_
                rintro e w4 ⟨rfl, hu4⟩
                have hB4 := hu4.keep0 hB3
                have hg4 := hu4.keep0 hg3
                have hS4 := hu4.keep0 hS3
                have hx4 := hx3.trans' hu4
                clear hu4 hB3 hg3 hS3 hx3 e0 e1 e2
                have s4 : B < w4.heap.size := lt_of_heap hB4
                have s5 : G < w4.heap.size := lt_of_heap hg4
                have s6 : S < w4.heap.size := lt_of_heap hS4
                go_upto_region 25 with (first | ((with_reducible apply wpl_store_gate); rfl; rfl; rfl; rfl; exact heap_alloc_new _ _; rfl; intro w5 hX5 hu5))
                have hv5 : Upd [] w4 w5 := (((Upd.refl [] w4).alloc _).trans hu5 (fun x hx => .inr (by simp at hx; subst hx; exact Nat.le_refl _)))
                have hB5 := hv5.keep0 hB4
                have hg5 := hv5.keep0 hg4
                have hS5 := hv5.keep0 hS4
                have hx5 := hx4.trans' hv5
                have hXB : B ≠ w4.heap.size := by omega
                clear hu5 hv5 hB4 hg4 hS4 hx4
                generalize w4.heap.size = X at *
                go_upto_region 26 with (first | ((with_reducible apply wpl_load_gate); rfl; rfl; rfl; exact hX5) | ((with_reducible apply wpl_store_gate); rfl; rfl; rfl; rfl; exact hB5; rfl; intro w6 hB6 hu6))
                have hg6 := hu6.keep hg5 (by simp; omega)
                have hS6 := hu6.keep hS5 (by simp; omega)
                have hx6 := hx5.trans hu6 (by simp; omega)
                clear hu6 hB5 hg5 hS5 hx5 hX5
                obtain ⟨e0, e1, e2, -⟩ := cells12 hS6
                go_wp2_with (fail)
                refine Calls.mono (HPRG.out _ hg6) ?_
                rintro e w7 ⟨rfl, hu7, hg7⟩
                have hB7 := hu7.keep hB6 (by simp; omega)
                have hx7 := hx6.trans hu7 (by simp; omega)
                clear hu7 hB6 hg6 hS6 hx6 e0 e1 e2
                go_wp2_with (fail)
                go_meet
                case rel => exact ⟨g', hg7, hB7, HOK.out, hx7⟩
            · have hq3 : (act == 3) = false := by simp [ha3]
              have HQ3 := Lib.hid ha3
              clear ha3
              by_cases ha4 : act = 4
              · skip
                as_aux_lemma =>
                  have hq : (act == 4) = true := by simp [ha4]
                  have HREF := Lib.hid (fun w' => rgowe_c g HOK0.out w')
                  have HPRG := Lib.hid (fun w' (hh : GtAt w' G g) => owe_c hh HOK0.out)
                  have HOK := Lib.hid HOK0.out.owed
                  generalize g.owed = g' at *
                  generalize g.oweB = E at *
                  clear ha4
                  clear e0 e1 e2
                  obtain ⟨e0, e1, e2, -⟩ := cells12 hS3
                  go_wp2_with (first | ((with_reducible apply wpl_load_gate); rfl; rfl; rfl; exact hB3))
                  refine Calls.mono (HREF.out _) ?_
                  rintro e w4 ⟨rfl, hu4⟩
                  have hB4 := hu4.keep0 hB3
                  have hg4 := hu4.keep0 hg3
                  have hS4 := hu4.keep0 hS3
                  have hx4 := hx3.trans' hu4
                  clear hu4 hB3 hg3 hS3 hx3 e0 e1 e2
                  have s4 : B < w4.heap.size := lt_of_heap hB4
                  have s5 : G < w4.heap.size := lt_of_heap hg4
                  have s6 : S < w4.heap.size := lt_of_heap hS4
                  go_upto_region 30 with (first | ((with_reducible apply wpl_store_gate); rfl; rfl; rfl; rfl; exact heap_alloc_new _ _; rfl; intro w5 hX5 hu5))
                  have hv5 : Upd [] w4 w5 := (((Upd.refl [] w4).alloc _).trans hu5 (fun x hx => .inr (by simp at hx; subst hx; exact Nat.le_refl _)))
                  have hB5 := hv5.keep0 hB4
                  have hg5 := hv5.keep0 hg4
                  have hS5 := hv5.keep0 hS4
                  have hx5 := hx4.trans' hv5
                  have hXB : B ≠ w4.heap.size := by omega
                  clear hu5 hv5 hB4 hg4 hS4 hx4
                  generalize w4.heap.size = X at *
                  go_upto_region 31 with (first | ((with_reducible apply wpl_load_gate); rfl; rfl; rfl; exact hX5) | ((with_reducible apply wpl_store_gate); rfl; rfl; rfl; rfl; exact hB5; rfl; intro w6 hB6 hu6))
                  have hg6 := hu6.keep hg5 (by simp; omega)
                  have hS6 := hu6.keep hS5 (by simp; omega)
                  have hx6 := hx5.trans hu6 (by simp; omega)
                  clear hu6 hB5 hg5 hS5 hx5 hX5
                  obtain ⟨e0, e1, e2, -⟩ := cells12 hS6
                  go_wp2_with (fail)
                  refine Calls.mono (HPRG.out _ hg6) ?_
                  rintro e w7 ⟨rfl, hu7, hg7⟩
                  have hB7 := hu7.keep hB6 (by simp; omega)
                  have hx7 := hx6.trans hu7 (by simp; omega)
                  clear hu7 hB6 hg6 hS6 hx6 e0 e1 e2
                  go_wp2_with (fail)
                  go_meet
                  case rel => exact ⟨g', hg7, hB7, HOK.out, hx7⟩
              · have hq4 : (act == 4) = false := by simp [ha4]
                have HQ4 := Lib.hid ha4
                clear ha4
                by_cases ha5 : act = 5
                · skip
                  as_aux_lemma =>
                    have hq : (act == 5) = true := by simp [ha5]
                    have HPRG := Lib.hid (fun w' (hh : GtAt w' G g) x => grest_c hh x)
                    clear ha5
                    have r9 := cellOf hB3 9
                    have z9 := frzOf hB3 9
                    go_upto_region 35 with (fail)
                    have hB5 := hset10_9 (v := .bool (n.tmod 2 != 0)) hB3
                    have hg5 := heap_setCell_ne (c := B) hg3 (by omega) 9 (.bool (n.tmod 2 != 0))
                    have hx5 := hx3.setCell (p := ⟨B, 9, none⟩) (.inr hwB) (.bool (n.tmod 2 != 0))
                    clear hB3 hg3 hS3 hx3 e0 e1 e2 r9 z9
                    generalize w3.setCell ⟨B, 9, none⟩ (.bool (n.tmod 2 != 0)) = w5 at *
                    generalize (n.tmod 2 != 0) = rs at *
                    have r9 := cellOf hB5 9
                    have HOK := Lib.hid (HOK0.out.rest rs)
                    have hB5' : RgAt w5 B (g.rest rs) := hB5
                    clear hB5
                    go_wp2_with (fail)
                    refine Calls.mono (HPRG.out _ hg5 _) ?_
                    rintro e w6 ⟨rfl, hu6, hg6⟩
                    have hB6 := hu6.keep hB5' (by simp; omega)
                    have hx6 := hx5.trans hu6 (by simp; omega)
                    clear hu6 hB5' hg5 hx5 r9
                    go_wp2_with (fail)
                    go_meet
                    case rel => exact ⟨_, hg6, hB6, HOK.out, hx6⟩
                · have hq5 : (act == 5) = false := by simp [ha5]
                  have HQ5 := Lib.hid ha5
                  clear ha5
                  by_cases ha6 : act = 6
                  · skip
                    as_aux_lemma =>
                      have hq : (act == 6) = true := by simp [ha6]
                      have HREF := Lib.hid (fun w' => rgset_c g HOK0.out ⟨q1, q2, q3, q4, q5, q6, q7, q8, q9⟩ w')
                      have HPRG := Lib.hid (fun w' (hh : GtAt w' G g) => gset_c hh ⟨q1, q2, q3, q4, q5, q6, q7, q8, q9⟩)
                      have HOK := Lib.hid (HOK0.out.set ⟨q1, q2, q3, q4, q5, q6, q7, q8, q9⟩)
                      generalize g.set ⟨q1, q2, q3, q4, q5, q6, q7, q8, q9⟩ = g' at *
                      clear ha6
                      obtain ⟨-, -, -, e3, e4, e5, e6, e7, e8, e9, e10, e11, -⟩ := cells12 hS3
                      go_wp2_with (first | ((with_reducible apply wpl_load_gate); rfl; rfl; rfl; exact hB3))
                      refine Calls.mono (HREF.out _) ?_
                      rintro e w4 ⟨rfl, hu4⟩
                      have hB4 := hu4.keep0 hB3
                      have hg4 := hu4.keep0 hg3
                      have hS4 := hu4.keep0 hS3
                      have hx4 := hx3.trans' hu4
                      clear hu4 hB3 hg3 hS3 hx3 e0 e1 e2 e3 e4 e5 e6 e7 e8 e9 e10 e11
                      go_upto_region 38 with (first | ((with_reducible apply wpl_store_gate); rfl; rfl; rfl; rfl; exact hB4; rfl; intro w5 hB5 hu5))
                      have hg5 := hu5.keep hg4 (by simp; omega)
                      have hS5 := hu5.keep hS4 (by simp; omega)
                      have hx5 := hx4.trans hu5 (by simp; omega)
                      clear hu5 hB4 hg4 hS4 hx4
                      obtain ⟨-, -, -, e3, e4, e5, e6, e7, e8, e9, e10, e11, -⟩ := cells12 hS5
                      go_wp2_with (fail)
                      refine Calls.mono (HPRG.out _ hg5) ?_
                      rintro e w6 ⟨rfl, hu6, hg6⟩
                      have hB6 := hu6.keep hB5 (by simp; omega)
                      have hx6 := hx5.trans hu6 (by simp; omega)
                      clear hu6 hB5 hg5 hS5 hx5 e3 e4 e5 e6 e7 e8 e9 e10 e11
                      go_wp2_with (fail)
                      go_meet
                      case rel => exact ⟨g', hg6, hB6, HOK.out, hx6⟩
                  · skip
                    as_aux_lemma =>
                      have hq6 : (act == 6) = false := by simp [ha6]
                      have hb1 := HOK0.out.r0
                      have hb2 := HOK0.out.u0
                      have hb3 := HOK0.out.t0
                      have HREF := Lib.hid (fun w' => rbtick_c g.r g.u g.t w' hb1 hb2 (by omega))
                      have HPRG := Lib.hid (fun w' (hh : GtAt w' G g) => gtick_c hh HOK0.out)
                      have HOK := Lib.hid HOK0.out.tick
                      clear ha6 hb1 hb2 hb3
                      obtain ⟨r0, r1, r2, -⟩ := cells10 hB3
                      go_wp2_with (fail)
                      refine Calls.mono (HREF.out _) ?_
                      rintro e w4 ⟨rfl, hu4⟩
                      have hB4 := hu4.keep0 hB3
                      have hg4 := hu4.keep0 hg3
                      have hx4 := hx3.trans' hu4
                      clear hu4 hB3 hg3 hS3 hx3 r0 r1 r2 e0 e1 e2
                      obtain ⟨r0, r1, r2, -, -, -, -, -, -, -, z0, z1, z2, -⟩ := cells10 hB4
                      have s4 : B < w4.heap.size := lt_of_heap hB4
                      have s5 : G < w4.heap.size := lt_of_heap hg4
                      go_upto_region 11 with (fail)
                      clear r0 r1 r2 z0 z1 z2
                      have hB5 : RgAt _ B g.tick := hset10_2 (v := i64 (min (g.t + g.r) g.u)) (hset10_1 (v := i64 g.u) (hset10_0 (v := i64 g.r) hB4))
                      have hg5 := heap_setCell_ne (c := B) (heap_setCell_ne (c := B) (heap_setCell_ne (c := B) hg4 (by omega) 0 (i64 g.r)) (by omega) 1 (i64 g.u)) (by omega) 2 (i64 (min (g.t + g.r) g.u))
                      have hx5 := ((hx4.setCell (p := ⟨B, 0, none⟩) (.inr hwB) (i64 g.r)).setCell (p := ⟨B, 1, none⟩) (.inr hwB) (i64 g.u)).setCell (p := ⟨B, 2, none⟩) (.inr hwB) (i64 (min (g.t + g.r) g.u))
                      clear hB4 hg4 hx4
                      generalize ((w4.setCell ⟨B, 0, none⟩ (i64 g.r)).setCell ⟨B, 1, none⟩ (i64 g.u)).setCell ⟨B, 2, none⟩ (i64 (min (g.t + g.r) g.u)) = w5 at *
                      go_wp2_with (fail)
                      refine Calls.mono (HPRG.out _ hg5) ?_
                      rintro e w6 ⟨rfl, hu6, hg6⟩
                      have hB6 := hu6.keep hB5 (by simp; omega)
                      have hx6 := hx5.trans hu6 (by simp; omega)
                      clear hu6 hB5 hg5 hx5
                      go_wp2_with (fail)
                      go_meet
                      case rel => exact ⟨g.tick, hg6, hB6, HOK.out, hx6⟩
      case rest =>
        obtain ⟨g', hg4, hB4, hok4, hx4⟩ := hcut
        clear hg3 hB3 hS3 hx3 e0 e1 e2
        have HOK4 := Lib.hid hok4
        clear hok4
        go_wp2_with (first | ((with_reducible apply wpl_load_gate); rfl; rfl; rfl; exact hB4))
        refine Calls.mono (gsame_c hg4) ?_
        rintro e w5 ⟨rfl, hu5⟩
        go_wp2_with (fail)
        go_roundw
        case rel => exact ⟨k + 1, g', by go_num, by omega, hu5.keep0 hg4, hu5.keep0 hB4, HOK4.out, hx4.trans' hu5⟩
        case measure => simp [intOf]; omega
    · have e : k = l.length := by omega
      go_wp2_with (fail)
      refine Calls.mono (gawake_c _) ?_
      rintro e w5 ⟨rfl, hu5⟩
      go_wp2_with (fail)
      exact hR.out _ _ ⟨rfl, hu.trans' hu5⟩
set_option maxRecDepth 100000 in
theorem gsteps0_c (c : Cf) (ao : Option Addr) (cap : Nat) (w : World) : Trues 12 #[.agg c.cells, .slice ao 0 cap] w := by
  unfold Trues
  refine post fun R hR => ?_
  go_enter Try.func12, Try.ntmps12
  go_wp2_with (fail)
  refine Calls.mono (gnew_c c _) ?_
  rintro e w1 ⟨G, rfl, hg1, hu1, hG⟩
  have hC1 := hu1.keep0 (heap_alloc_new w (.cells c.cells 60))
  obtain ⟨c0, c1, c2, c3, c4, c5, c6, c7, c8, -⟩ := cells9 hC1
  go_wp2_with (fail)
  refine Calls.mono (rgnew_c c _) ?_
  rintro e w2 ⟨rfl, hu2⟩
  have hx2 := (((Upd.refl [] w).alloc (.cells c.cells 60)).trans' hu1).trans' hu2
  have HX2 := Lib.hid hx2
  clear hx2 hu1 hu2 hg1 hC1 c0 c1 c2 c3 c4 c5 c6 c7 c8
  generalize Gt.new c = g0 at *
  go_wp2_with (fail)
  refine wp_loop_once ?_
  go_wp2_with (fail)
  refine Calls.mono (gawake_c _) ?_
  rintro e w5 ⟨rfl, hu5⟩
  go_wp2_with (fail)
  exact hR.out _ _ ⟨rfl, (HX2.out.alloc _).trans' hu5⟩

set_option maxRecDepth 100000 in
theorem gsteps9_c (c : Cf) (ao : Option Addr) (n cap : Nat) (w : World) (hn : 300 < n) : Trues 12 #[.agg c.cells, .slice ao n cap] w := by
  unfold Trues
  refine post fun R hR => ?_
  go_enter Try.func12, Try.ntmps12
  go_wp2_with (fail)
  refine Calls.mono (gawake_c _) ?_
  rintro e w5 ⟨rfl, hu5⟩
  go_wp2_with (fail)
  exact hR.out _ _ ⟨rfl, ((Upd.refl _ _).alloc _).trans' hu5⟩

set_option maxRecDepth 100000 in
theorem gateSteps_walk {H : Type} {enc : TypeId × Value → H} {W : World} {base : Nat} {args : Array Value} {ds gs : List (DataW H)} {before : List MemPlace}
    (hval : ∀ (j : Nat) t v, Try.f12.params[j]? = some t → args[j]? = some v → Value.okWide Try.prog W .any base t v)
    (hW : DataW.Whole enc Try.prog Try.f12.params.toList [] false W args.toList ds gs before) : Trues 12 args W := by
  obtain ⟨p, q, hA, -, rfl, -, -⟩ := hW
  rw [Try.params12] at hA hval
  obtain ⟨v0, v1, d0, d1, p0, p1, rfl, rfl, rfl, h0, h1⟩ := trodAll_two hA
  obtain ⟨vs, rfl, hvs⟩ := open_struct Try.underlying60 flat_conf (hval 0 60 v0 rfl rfl) h0
  obtain ⟨c, rfl⟩ := Cf.parse vs hvs
  obtain ⟨ao, cap, l, rfl, hlc, hcap, hg, hl⟩ := open_list GStp.parse Try.underlying61 flat_gstep cells_gstep (by decide) (hval 1 61 v1 rfl rfl) h1
  by_cases hbig : 300 < l.length
  · exact gsteps9_c c ao l.length cap W hbig
  · rcases hl with rfl | ⟨b, off, rfl, hr⟩
    · exact gsteps0_c c ao cap W
    · cases l with
      | nil => exact gsteps0_c c _ cap W
      | cons x r =>
        exact gsteps_c c b off cap (x :: r) W (by omega) hr (World.block_lt_of_cell? W _ (hr 0 x rfl 0 (by decide))) hg

set_option maxRecDepth 100000 in
theorem gateSteps_lifted (os : Os) (started : os.Started) (H : Type) (enc : TypeId × Value → H) :
    ReturnsInHanded {} Try.checked os 12 .any (Rows.gateStepsSpec.pre6 enc Try.prog Try.f12 Rows.gateStepsRow.domain false) (Rows.gateStepsSpec.post enc Try.prog Try.f12 false true false false) := by
  refine returnsInHanded_of_change (C := Try.checked) own started (by kernel_rfl) Try.func12
    (ChangeSpec.witness6 (enc := enc) (C := Try.checked) false ⟨#[], #[.agg #[.int .i64 0, .int .i64 0, .int .i64 0, .int .i64 0, .int .i64 0, .int .i64 0, .int .i64 0, .int .i64 0, .int .i64 0], .slice none 0 0], []⟩ 8 (by kernel_rfl) (by kernel_rfl) (by kernel_rfl) (by kernel_rfl)) ?_
  intro W base args ds gs before hval hW hcnd _
  refine Calls.mono (gateSteps_walk hval hW) fun e W' ⟨he, hu⟩ => ?_
  exact ⟨_, he, law_post rfl rfl (by kernel_rfl) hW (fun ds h => by match ds, h with | [_, _], _ => rfl) hu⟩

set_option maxRecDepth 100000 in
theorem gateSteps_over : Rows.gateStepsRow.holds Try.pinned (OpenSpec.ofChange Rows.gateStepsSpec) :=
  OpenClaim.holds_of_wide 12 Try.f12 rfl rfl rfl rfl rfl rfl rfl ⟨rfl, rfl, rfl, rfl, rfl⟩ rfl rfl rfl rfl rfl (by kernel_rfl) Try.func12 (by kernel_rfl)
    (of_decide_eq_true (by kernel_rfl)) (by unfold Func.isWrapper; first | (rw [if_pos (by decide +kernel)]; kernel_rfl) | (rw [if_neg (by decide +kernel)]; exact ⟨rfl, rfl⟩))
    (fun os started H enc _ => gateSteps_lifted os started H enc)

theorem gateSteps_proved : Rows.GateStepsSaid := gateSteps_over
end Go.Proofs.Ytnhanldefebjbaa

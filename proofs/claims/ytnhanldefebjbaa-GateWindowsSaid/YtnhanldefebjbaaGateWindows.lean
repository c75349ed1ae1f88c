/-
  GateWindows: in each time between two steps what is taken of tokens is at most the burst, and the rate times the ticks; ErrQuota is told just if it would be more than that, of some time that ends then. For every configuration and list of steps. No condition.
-/
import Derived.Test.YtnhanldefebjbaaGWinLaw
import Derived.Test.YtnhanldefebjbaaSub
import Derived.Deep.DeepCutAuto
import Derived.Deep.CutBlock
namespace Go.Proofs.Ytnhanldefebjbaa
open Go Go.RowKit Go.ChangeShapes Go.WideShapes Go.ChangeAt

theorem info_win : (Try.prog.info? 68).map (fun i => (i.zero, i.size, i.bytes)) = some (some (.agg #[.int .i64 0, .int .i64 0]), 2, 16) := by kernel_rfl

abbrev WinAt (w : World) (base : Nat) (v : Value) (l : List (Int × Int)) : Prop := Sub w base 68 2 v l.length (wcells l)

theorem brkB_zero (rate burst c : Int) (l : List (Int × Int)) : brkB rate burst c (l.take 0) = false := by simp [brkB]
theorem brkB_no {rate burst c : Int} {l : List (Int × Int)} {k : Nat} (h : brkB rate burst c (l.take k) = false) (hk : k < l.length) (h2 : ¬ burst + rate * l[k].2 < l[k].1 + c) : brkB rate burst c (l.take (k + 1)) = false := by
  unfold brkB at *
  rw [List.take_succ_eq_append_getElem hk, List.any_append, h]
  simpa using h2
theorem brkB_yes {rate burst c : Int} {l : List (Int × Int)} {k : Nat} (hk : k < l.length) (h2 : burst + rate * l[k].2 < l[k].1 + c) : brkB rate burst c l = true := by
  unfold brkB
  rw [List.any_eq_true]
  exact ⟨l[k], List.getElem_mem hk, by simpa using h2⟩

set_option maxRecDepth 100000 in
set_option maxHeartbeats 2000000 in
theorem breaks_c {w : World} {base : Nat} {v : Value} {l : List (Int × Int)} (hs : WinAt w base v l) (rate burst c : Int) (hr : 0 ≤ rate ∧ rate ≤ 1048576) (hbu : 0 ≤ burst ∧ burst ≤ 1048576) (hc : 0 ≤ c ∧ c ≤ 1040) (hlen : l.length ≤ 1000)
    (hbd : ∀ p ∈ l, 0 ≤ p.1 ∧ p.1 ≤ 1048576 ∧ 0 ≤ p.2 ∧ p.2 ≤ 1000) :
    Calls Try.prog 39 #[v, i64 rate, i64 burst, i64 c] w fun e w' => e = .returned (.bool (brkB rate burst c l)) ∧ Upd [] w w' := by
  obtain ⟨ao, cap, rfl, hcap, hcs⟩ := hs.form
  by_cases h0 : l.length = 0
  · obtain rfl : l = [] := List.eq_nil_of_length_eq_zero h0
    clear hs hcs hbd
    refine post fun R hR => ?_
    go_enter Try.func39, Try.ntmps39
    go_wp2_with (fail)
    refine wp_loop_once ?_
    go_wp2_with (fail)
    exact hR.out _ _ ⟨rfl, Upd.refl _ _⟩
  · obtain ⟨g, off, rfl, -, hg, hcs⟩ := hcs (by omega)
    have hcell : ∀ wr, Upd [] w wr → ∀ j (h : j < l.length), wr.cell? ⟨g, off + j * 2, none⟩ = some (i64 l[j].1) ∧ wr.cell? ⟨g, off + j * 2 + 1, none⟩ = some (i64 l[j].2) := by
      intro wr hu j h
      refine ⟨(World.cell?_of_block (a := ⟨g, off + j * 2, none⟩) (hu.block g hg (by simp))).trans (hcs _ _ (wcells_c h)), ?_⟩
      have := (World.cell?_of_block (a := ⟨g, off + (j * 2 + 1), none⟩) (hu.block g hg (by simp))).trans (hcs _ _ (wcells_t h))
      rw [← Nat.add_assoc] at this; exact this
    have HC := Lib.hid hcell
    have HBD := Lib.hid hbd
    have HZ := Lib.hid (brkB_zero rate burst c l)
    obtain ⟨r1, r2⟩ := hr
    obtain ⟨u1, u2⟩ := hbu
    obtain ⟨c1, c2⟩ := hc
    clear hs hcs hbd hcell
    refine post fun R hR => ?_
    go_enter Try.func39, Try.ntmps39
    go_wp2_with (fail)
    go_loopw [9] (fun i wr => ∃ k : Nat, i = i64 k ∧ k ≤ l.length ∧ brkB rate burst c (l.take k) = false ∧ Upd [] w wr) (fun i _ => l.length - (intOf i).toNat)
    case atStart => exact ⟨0, rfl, Nat.zero_le _, HZ.out, Upd.refl _ _⟩
    case round =>
      obtain ⟨k, rfl, hk, hb, hu⟩ := hrel
      have HB := Lib.hid hb
      clear hb
      by_cases hlt : k < l.length
      · obtain ⟨ca, cb⟩ := HC.out _ hu k hlt
        obtain ⟨g1, g2, g3, g4⟩ := HBD.out l[k] (List.getElem_mem hlt)
        have hmul : 0 ≤ rate * l[k].2 ∧ rate * l[k].2 ≤ 1048576 * 1000 := ⟨Int.mul_nonneg r1 g3, Int.mul_le_mul r2 g4 g3 (by omega)⟩
        obtain ⟨g5, g6⟩ := hmul
        have W1 : IntKind.i64.wrap (l[k].1 + c) = l[k].1 + c := IntWalk.i64_in _ (by omega)
        have W2 : IntKind.i64.wrap (rate * l[k].2) = rate * l[k].2 := IntWalk.i64_in _ (by omega)
        have W3 : IntKind.i64.wrap (burst + rate * l[k].2) = burst + rate * l[k].2 := IntWalk.i64_in _ (by omega)
        have i3 : (0 : Int) ≤ (k : Int) := by omega
        have i4 : (k : Int) < (l.length : Int) := by omega
        by_cases hx : burst + rate * l[k].2 < l[k].1 + c
        · have hy := brkB_yes hlt hx
          have HY := Lib.hid hy
          have hd : decide (burst + rate * l[k].2 < l[k].1 + c) = true := by simpa using hx
          clear hx hy
          generalize l[k].1 = a at *
          generalize l[k].2 = t at *
          go_wp2_with (fail)
          go_quiet (fail)
          go_wp2_with (fail)
          exact hR.out _ _ ⟨(by rw [HY.out]; rfl), hu.drewN _⟩
        · have hy := brkB_no HB.out hlt hx
          have HY := Lib.hid hy
          have hd : decide (burst + rate * l[k].2 < l[k].1 + c) = false := by simpa using hx
          clear hx hy
          generalize l[k].1 = a at *
          generalize l[k].2 = t at *
          go_wp2_with (fail)
          go_quiet (fail)
          go_wp2_with (fail)
          go_roundw
          case rel => exact ⟨k + 1, by go_num, by omega, HY.out, hu.drewN _⟩
          case measure => simp [intOf]; omega
      · have e : k = l.length := by omega
        have hfin : brkB rate burst c l = false := by
          have := HB.out
          rw [e, List.take_length] at this; exact this
        have HFIN := Lib.hid hfin
        clear hfin
        go_wp2_with (fail)
        exact hR.out _ _ ⟨(by rw [HFIN.out]; rfl), hu⟩

theorem winAt_of {w : World} {base n : Nat} {v : Value} {l : List (Int × Int)} (h : Sub w base 68 2 v n (wcells l)) (hn : n = l.length) : WinAt w base v l := by subst hn; exact h
theorem wins_read {w : World} {base g off n cap : Nat} {f : Int × Int → Int × Int} {m : Nat} {W : List (Int × Int)} (h : Sub w base 68 2 (.slice (some ⟨g, off, none⟩) n cap) n (wcells (upto f m W))) (hm : m < W.length) :
    w.cell? ⟨g, off + m * 2, none⟩ = some (i64 W[m].1) ∧ w.cell? ⟨g, off + m * 2 + 1, none⟩ = some (i64 W[m].2) ∧ w.frozen? ⟨g, off + m * 2, none⟩ = false ∧ w.frozen? ⟨g, off + m * 2 + 1, none⟩ = false ∧ g < w.heap.size := by
  obtain ⟨ao, cap', e, -, hc⟩ := h.form
  injection e with e1 e2 e3
  subst e1
  have hl := h.len
  rw [wcells_len, upto_len] at hl
  obtain ⟨g', off', e, -, hlt, hc⟩ := hc (by omega)
  injection e with e
  injection e with e4 e5
  subst e4; subst e5
  have hm' : m < (upto f m W).length := by rw [upto_len]; exact hm
  have hg := upto_get f hm
  have e6 : (upto f m W)[m] = W[m] := by
    rw [List.getElem?_eq_getElem hm'] at hg
    injection hg
  have h1 := hc _ _ (wcells_c hm')
  have h2 := hc _ _ (wcells_t hm')
  rw [e6] at h1 h2
  rw [← Nat.add_assoc] at h2
  obtain ⟨cs, hb⟩ := h.ty g (by simp [blkL])
  exact ⟨h1, h2, frzOf hb _, frzOf hb _, hlt⟩
theorem wins_tick {w : World} {base g off n cap : Nat} {m : Nat} {W : List (Int × Int)} (h : Sub w base 68 2 (.slice (some ⟨g, off, none⟩) n cap) n (wcells (upto wtick m W))) (hm : m < W.length) :
    Sub (w.setCell ⟨g, off + m * 2 + 1, none⟩ (i64 (W[m].2 + 1))) base 68 2 (.slice (some ⟨g, off, none⟩) n cap) n (wcells (upto wtick (m + 1) W)) := by
  have hl := h.len
  rw [wcells_len, upto_len] at hl
  have hm' : m < (upto wtick m W).length := by rw [upto_len]; exact hm
  have hg := upto_get wtick hm
  have e6 : (upto wtick m W)[m] = W[m] := by
    rw [List.getElem?_eq_getElem hm'] at hg
    injection hg
  have := h.set (j := m * 2 + 1) (by omega) (i64 (W[m].2 + 1))
  rw [wcells_set_t hm', e6, ← Nat.add_assoc] at this
  rw [upto_succ _ hm]
  exact this
theorem wins_take {w : World} {base g off n cap : Nat} {m : Nat} {c : Int} {W : List (Int × Int)} (h : Sub w base 68 2 (.slice (some ⟨g, off, none⟩) n cap) n (wcells (upto (wtake c) m W))) (hm : m < W.length) :
    Sub (w.setCell ⟨g, off + m * 2, none⟩ (i64 (W[m].1 + c))) base 68 2 (.slice (some ⟨g, off, none⟩) n cap) n (wcells (upto (wtake c) (m + 1) W)) := by
  have hl := h.len
  rw [wcells_len, upto_len] at hl
  have hm' : m < (upto (wtake c) m W).length := by rw [upto_len]; exact hm
  have hg := upto_get (wtake c) hm
  have e6 : (upto (wtake c) m W)[m] = W[m] := by
    rw [List.getElem?_eq_getElem hm'] at hg
    injection hg
  have := h.set (j := m * 2) (by omega) (i64 (W[m].1 + c))
  rw [wcells_set_c hm', e6] at this
  rw [upto_succ _ hm]
  exact this

set_option maxRecDepth 100000 in
set_option maxHeartbeats 8000000 in
theorem gwin_c (c : Cf) (b off cap : Nat) (l : List GStp) (w : World) (hlen : l.length ≤ 150) (hrows : RowsAt w b off 12 GStp.cells l) (hb : b < w.heap.size) (hgood : ∀ x ∈ l, x.good) :
    Trues 10 #[.agg c.cells, .slice (some ⟨b, off, none⟩) l.length cap] w := by
  unfold Trues
  have HRows := Lib.hid hrows
  have HGood := Lib.hid hgood
  have hmx := @maxR Try.prog
  have hmn := @minR Try.prog
  obtain ⟨i0, hi0, hz0, hz1, hz2⟩ := info_parts info_win
  clear hrows hgood
  refine post fun R hR => ?_
  go_enter Try.func10, Try.ntmps10
  go_wp2_with (fail)
  go_quiet (fail)
  rename_i nq
  have hC0 := heap_drewN (heap_alloc_new w (.cells c.cells 60)) nq
  have hu0 := ((Upd.refl [] w).alloc (.cells c.cells 60)).drewN nq
  generalize (w.alloc (.cells c.cells 60)).drewN nq = w0 at *
  obtain ⟨c0, c1, c2, c3, c4, c5, c6, c7, c8, f0, f1, f2, f3, f4, f5, f6, f7, f8⟩ := cells9 hC0
  have hu1 : Upd [] w (((w0.setCell ⟨w.heap.size, 4, none⟩ (i64 1)).setCell ⟨w.heap.size, 3, none⟩ (i64 1040)).setCell ⟨w.heap.size, 5, none⟩ (i64 1)) := ((hu0.setCell (.inr (Nat.le_refl _)) _).setCell (.inr (Nat.le_refl _)) _).setCell (.inr (Nat.le_refl _)) _
  have HU1 := Lib.hid hu1
  clear hC0 hu0 hu1
  obtain ⟨rate, hrate⟩ : ∃ rate, rate = clamp c.rate 1048576 := ⟨_, rfl⟩
  obtain ⟨burst, hburst⟩ : ∃ burst, burst = clamp c.burst 1048576 := ⟨_, rfl⟩
  have hr1 : 0 ≤ rate := by rw [hrate]; unfold clamp; omega
  have hr2 : rate ≤ 1048576 := by rw [hrate]; unfold clamp; omega
  have hu1 : 0 ≤ burst := by rw [hburst]; unfold clamp; omega
  have hu2 : burst ≤ 1048576 := by rw [hburst]; unfold clamp; omega
  have hnew := gnew_c ⟨c.quantum, c.rate, c.burst, 1040, 1, 1, c.conns, c.state, c.decode⟩
  have htok := gtok_new ⟨c.quantum, c.rate, c.burst, 1040, 1, 1, c.conns, c.state, c.decode⟩ rfl rfl rfl
  have hgr : (Gt.new ⟨c.quantum, c.rate, c.burst, 1040, 1, 1, c.conns, c.state, c.decode⟩).r = rate := hrate.symm
  have hgu : (Gt.new ⟨c.quantum, c.rate, c.burst, 1040, 1, 1, c.conns, c.state, c.decode⟩).u = burst := hburst.symm
  have hgt : (Gt.new ⟨c.quantum, c.rate, c.burst, 1040, 1, 1, c.conns, c.state, c.decode⟩).t = burst := hburst.symm
  unfold clamp at hrate hburst
  rw [← hrate, ← hburst]
  generalize Gt.new ⟨c.quantum, c.rate, c.burst, 1040, 1, 1, c.conns, c.state, c.decode⟩ = g0 at *
  have HNEW := Lib.hid hnew
  have HTOK := Lib.hid htok
  have HGR := Lib.hid hgr
  have HGU := Lib.hid hgu
  have HGT := Lib.hid hgt
  clear hnew htok hgr hgu hgt hrate hburst
  go_wp2_with (fail)
  refine Calls.mono (HNEW.out _) ?_
  rintro e w1 ⟨G, rfl, hg1, huN, hG⟩
  have hw1 : Upd [] w w1 := HU1.out.trans' huN
  replace hG : w.heap.size ≤ G := Nat.le_trans HU1.out.size hG
  clear HU1 HNEW huN c0 c1 c2 c3 c4 c5 c6 c7 c8 f0 f1 f2 f3 f4 f5 f6 f7 f8
  go_wp2_with (fail)
  go_loopw [8, 9] (fun v i wr => ∃ (k : Nat) (g : Gt) (ws : List (Int × Int)), i = i64 k ∧ k ≤ l.length ∧ ws.length = k ∧ WinAt wr w.heap.size v ws ∧ GtAt wr G g ∧ GTok g ∧ g.r = rate ∧ g.u = burst ∧ GWin rate burst g.t ws k ∧ Upd [] w wr)
    (fun _ i _ => l.length - (intOf i).toNat)
  case atStart => exact ⟨0, g0, [], rfl, Nat.zero_le _, rfl, sub_nil _ _ _ _, hg1, HTOK.out, HGR.out, HGU.out, (by rw [HGT.out]; exact gwin_zero hu1), hw1⟩
  case round =>
    clear hg1 hw1 HTOK HGR HGU HGT
    obtain ⟨k, g, ws, rfl, hk, rfl, hW, hg, hT, hgr, hgu, hwin, hu⟩ := hrel
    by_cases hlt : ws.length < l.length
    · have hrow := gsrow HRows.out hu hb (by simp) hlt
      have c0 := hrow 0 (by omega)
      have c1 := hrow 1 (by omega)
      have c2 := hrow 2 (by omega)
      have c3 := hrow 3 (by omega)
      have c4 := hrow 4 (by omega)
      have c5 := hrow 5 (by omega)
      have c6 := hrow 6 (by omega)
      have c7 := hrow 7 (by omega)
      have c8 := hrow 8 (by omega)
      have c9 := hrow 9 (by omega)
      have c10 := hrow 10 (by omega)
      have c11 := hrow 11 (by omega)
      have hgd := HGood.out l[ws.length] (List.getElem_mem hlt)
      generalize l[ws.length] = x at *
      obtain ⟨act, kd, n, q⟩ := x
      obtain ⟨q1, q2, q3, q4, q5, q6, q7, q8, q9⟩ := q
      clear hrow
      obtain ⟨n1, n2⟩ : -9223372036854775808 ≤ n ∧ n ≤ 9223372036854775807 := hgd
      simp only [GStp.cells, List.getElem?_cons_zero, List.getElem?_cons_succ, Nat.add_zero] at c0 c1 c2 c3 c4 c5 c6 c7 c8 c9 c10 c11
      obtain ⟨ao, vcap, rfl, -, -⟩ := hW.form
      have hs1 := hu.size
      have hSl := lt_of_heap hg
      have HW := Lib.hid hW
      have HG := Lib.hid hg
      have HT := Lib.hid hT
      have HGR := Lib.hid hgr
      have HGU := Lib.hid hgu
      have HPU := Lib.hid (gwin_push hwin)
      have HU := Lib.hid hu
      have hmx63 : ws.length + 1 ≤ maxLen := by unfold maxLen; omega
      have hGv : G ∉ blkL (.slice ao ws.length vcap) := fun hm => by
        obtain ⟨cs, hc⟩ := hW.ty _ hm
        rw [hg] at hc; injection hc with hc; injection hc with _ hc; cases hc
      have hSv : wr.heap.size ∉ blkL (.slice ao ws.length vcap) := fun hm => by have := (hW.lt _ hm).2; omega
      have hvb : ∀ x ∈ blkL (.slice ao ws.length vcap), w.heap.size ≤ x := fun x hx => (hW.lt x hx).1
      have HGV := Lib.hid hGv
      have HSV := Lib.hid hSv
      have HVB := Lib.hid hvb
      have HWC := Lib.hid (wcells_append ws [(0, 0)])
      clear hW hg hT hgr hgu hwin hu hGv hSv hvb
      by_cases ha1 : act = 1
      · have hq : (act == 1) = true := by simp [ha1]
        have hq2 : (act != 1) = false := by simp [ha1]
        have HQ := Lib.hid ha1
        clear ha1
        go_wp2_with (at_builtin; refine wpList_append_sub _ rfl _ _ 64 rfl w.heap.size 68 i0 _ 2 16 Try.underlying64 hi0 hz0 hz1 hz2 rfl (by decide) (.slice ao ws.length vcap) ws.length _ rfl ((HW.out.upd0 ((Upd.refl _ _).alloc _)).upd0 ((Upd.refl _ _).alloc _)) _ 1 1 [i64 0, i64 0] rfl (src_block (by first | exact heap_alloc_new _ _ | exact heap_new2 _ _ _) 1 1) rfl (by intro u hu; simp at hu; subst hu; rfl) hmx63 (by omega) (by simp; omega) ?_; intro ao' vcap' w5 hs5 hu5 hb5; have hS5 := hu5.keep (heap_alloc_old (heap_alloc_new wr (.cells #[i64 act, i64 kd, i64 n, i64 q1, i64 q2, i64 q3, i64 q4, i64 q5, i64 q6, i64 q7, i64 q8, i64 q9] 66)) _) HSV.out; have hg5 := hu5.keep (heap_alloc_old (heap_alloc_old HG.out _) _) HGV.out; have hu5' : Upd [] w w5 := ((HU.out.alloc _).alloc _).trans hu5 (fun x hx => .inr (HVB.out x hx)); obtain ⟨e0, e1, e2, -⟩ := cells12 hS5; have HW5 := Lib.hid hs5; have HU5 := Lib.hid hu5'; have HS5 := Lib.hid hS5; have HG5 := Lib.hid hg5; clear hs5 hu5 hb5 hS5 hg5 hu5')
        obtain ⟨N, hN⟩ : ∃ N, N = max 0 (min n 1024) := ⟨_, rfl⟩
        rw [← hN]
        have hN0 : 0 ≤ N := by omega
        have hN1 : N ≤ 1024 := by omega
        have hcost : costN N = 16 + N := by unfold costN; omega
        clear hN
        obtain ⟨ao6, vcap6, e6, -, hne⟩ := HW5.out.form
        injection e6 with e6 _ e7
        subst e6
        subst e7
        obtain ⟨g2, off2, rfl, hg2, -, -⟩ := hne (by omega)
        have hGg : G ≠ g2 := by
          rintro rfl
          obtain ⟨cs, hc⟩ := HW5.out.ty G (by simp [blkL])
          have hx := HG5.out.symm.trans hc
          injection hx with hx; injection hx with _ hx; cases hx
        obtain ⟨m1, m2, m3, m4, m5, m6, m7⟩ := gtok_pass HT.out kd N
        have hbrk := brkB_eq (c := 16 + N) HPU.out.1 HPU.out.2
        have hadm := admit_c HG5.out HT.out.ok kd N
        have hdel := fun w' (hh : GtAt w' G (g.admG kd N)) => gdeliver_c hh m2
        have hsrv : ∀ w', GtAt w' G (g.admG kd N).deliv → Calls Try.prog 41 #[.pointer (some ⟨G, 0, none⟩), i64 N] w' fun e w'' => e = .returned (i64 ((g.admG kd N).deliv.servE N)) ∧ Upd [G] w' w'' ∧ GtAt w'' G (g.pass kd N) := fun w' hh => gserve_c hh m3 N
        rw [hcost] at m1 m5
        have HBD : Hid (∀ p ∈ ws ++ [((0, 0) : Int × Int)], 0 ≤ p.1 ∧ p.1 ≤ 1048576 ∧ 0 ≤ p.2 ∧ p.2 ≤ 1000) := Lib.hid (by
          intro p hp
          have := HPU.out.1.bd p hp
          omega)
        have hWl : (ws ++ [((0, 0) : Int × Int)]).length = ws.length + 1 := by simp
        have hW5 : Sub w5 w.heap.size 68 2 (.slice (some ⟨g2, off2, none⟩) (ws.length + 1) vcap') (ws.length + 1) (wcells (ws ++ [(0, 0)])) := by rw [HWC.out]; exact HW5.out
        have hbrc : ∀ w', Upd [G] w5 w' → Calls Try.prog 39 #[.slice (some ⟨g2, off2, none⟩) (ws.length + 1) vcap', i64 rate, i64 burst, i64 (16 + N)] w' fun e w'' => e = .returned (.bool (brkB rate burst (16 + N) (ws ++ [(0, 0)]))) ∧ Upd [] w' w'' := fun w' hu' =>
          breaks_c (winAt_of (hW5.upd hu' (by intro x hx hm; simp [blkL] at hx hm; subst hx; exact hGg hm.symm)) hWl.symm) rate burst (16 + N) ⟨hr1, hr2⟩ ⟨hu1, hu2⟩ (by omega) (by omega) HBD.out
        have hpr := m6.trans HGR.out
        have hpu := m7.trans HGU.out
        by_cases htc : g.t < 16 + N
        · rw [if_pos htc] at m1 m5
          rw [decide_eq_true htc] at hbrk
          rw [hbrk] at hbrc
          rw [m1] at hadm
          have HFW : Hid (GWin rate burst (g.pass kd N).t (ws ++ [(0, 0)]) (ws.length + 1)) := Lib.hid (by rw [m5]; exact gwin_stay HPU.out.1)
          have HADM := Lib.hid hadm
          have HDEL := Lib.hid hdel
          have HSRV := Lib.hid hsrv
          have HBRC := Lib.hid hbrc
          have HP4 := Lib.hid m4
          have HPR := Lib.hid hpr
          have HPU2 := Lib.hid hpu
          have HW5' := Lib.hid hW5
          have HWL := Lib.hid hWl
          clear hadm hdel hsrv hbrc m1 m2 m3 m4 m5 m6 m7 hpr hpu hbrk htc hcost hW5 hWl c0 c1 c2 c3 c4 c5 c6 c7 c8 c9 c10 c11 HPU HW HG HU HW5 HGV HVB HWC HBD
          generalize g.pass kd N = gp at *
          generalize (g.admG kd N).deliv.servE N = E1 at *
          generalize (g.admG kd N).delivE = E2 at *
          generalize (g.admG kd N).deliv = gd at *
          generalize g.admG kd N = ga at *
          generalize g.admO kd = oo at *
          generalize ws ++ [((0, 0) : Int × Int)] = W at *
          refine Calls.mono HADM.out ?_
          rintro e w6 ⟨rfl, hu6, hg6⟩
          have hS6 := hu6.keep HS5.out (by simp; omega)
          obtain ⟨e0, e1, e2, -⟩ := cells12 hS6
          go_wp2_with (fail)
          refine Calls.mono (HBRC.out _ hu6) ?_
          rintro e w7 ⟨rfl, hu7⟩
          have hg7 := hu7.keep0 hg6
          have hu57 : Upd [G] w5 w7 := hu6.trans hu7 (by simp)
          go_wp2_with (fail)
          refine wp_loop_once ?_
          go_wp2_with (fail)
          refine Calls.mono (HDEL.out _ hg7) ?_
          rintro e w8 ⟨rfl, hu8, hg8⟩
          go_wp2_with (fail)
          refine Calls.mono (HSRV.out _ hg8) ?_
          rintro e w9 ⟨rfl, hu9, hg9⟩
          have hu59 : Upd [G] w5 w9 := (hu57.trans' hu8).trans' hu9
          have hW9 := HW5'.out.upd hu59 (by intro x hx hm; simp [blkL] at hx hm; subst hx; exact hGg hm.symm)
          have hu9' : Upd [] w w9 := HU5.out.trans hu59 (by simp; omega)
          go_wp2_with (fail)
          go_roundw
          case rel => exact ⟨ws.length + 1, gp, W, by go_num, by omega, HWL.out, winAt_of hW9 HWL.out.symm, hg9, HP4.out, HPR.out, HPU2.out, HFW.out, hu9'⟩
          case measure => simp [intOf]; omega
        · rw [if_neg htc] at m1 m5
          rw [decide_eq_false htc] at hbrk
          rw [hbrk] at hbrc
          rw [m1] at hadm
          have HFW : Hid (GWin rate burst (g.pass kd N).t ((ws ++ [(0, 0)]).map (wtake (16 + N))) (ws.length + 1)) := Lib.hid (by rw [m5]; exact gwin_take HPU.out.1 HPU.out.2 (by omega) (by omega))
          have HADM := Lib.hid hadm
          have HDEL := Lib.hid hdel
          have HSRV := Lib.hid hsrv
          have HBRC := Lib.hid hbrc
          have HP4 := Lib.hid m4
          have HPR := Lib.hid hpr
          have HPU2 := Lib.hid hpu
          have HW5' := Lib.hid hW5
          have HWL := Lib.hid hWl
          clear hadm hdel hsrv hbrc m1 m2 m3 m4 m5 m6 m7 hpr hpu hbrk htc hcost hW5 hWl c0 c1 c2 c3 c4 c5 c6 c7 c8 c9 c10 c11 HPU HW HG HU HW5 HGV HVB HWC
          generalize g.pass kd N = gp at *
          generalize (g.admG kd N).deliv.servE N = E1 at *
          generalize (g.admG kd N).delivE = E2 at *
          generalize (g.admG kd N).deliv = gd at *
          generalize g.admG kd N = ga at *
          generalize g.admO kd = oo at *
          generalize ws ++ [((0, 0) : Int × Int)] = W at *
          refine Calls.mono HADM.out ?_
          rintro e w6 ⟨rfl, hu6, hg6⟩
          have hS6 := hu6.keep HS5.out (by simp; omega)
          obtain ⟨e0, e1, e2, -⟩ := cells12 hS6
          go_wp2_with (fail)
          refine Calls.mono (HBRC.out _ hu6) ?_
          rintro e w7 ⟨rfl, hu7⟩
          have hg7 := hu7.keep0 hg6
          have hu57 : Upd [G] w5 w7 := hu6.trans hu7 (by simp)
          have hW7 : Sub w7 w.heap.size 68 2 (.slice (some ⟨g2, off2, none⟩) (ws.length + 1) vcap') (ws.length + 1) (wcells (upto (wtake (16 + N)) 0 W)) := by
            rw [upto_zero]
            exact HW5'.out.upd hu57 (by intro x hx hm; simp [blkL] at hx hm; subst hx; exact hGg hm.symm)
          have hu7' : Upd [] w w7 := HU5.out.trans hu57 (by simp; omega)
          clear e0 e1 e2 hu6 hg6 hS6 hu7 hu57 HW5' HS5
          go_wp2_with (fail)
          go_loopw [16] (fun j wi => ∃ m : Nat, j = i64 m ∧ m ≤ ws.length + 1 ∧ Sub wi w.heap.size 68 2 (.slice (some ⟨g2, off2, none⟩) (ws.length + 1) vcap') (ws.length + 1) (wcells (upto (wtake (16 + N)) m W)) ∧ GtAt wi G ga ∧ Upd [] w wi) (fun j _ => ws.length + 1 - (intOf j).toNat)
          case atStart => exact ⟨0, rfl, Nat.zero_le _, hW7, hg7, hu7'⟩
          case round =>
            clear hW7 hg7 hu7'
            obtain ⟨m, rfl, hm, hWi, hgi, hui⟩ := hrel
            by_cases hml : m < ws.length + 1
            · have hmW : m < W.length := by rw [HWL.out]; exact hml
              obtain ⟨k0, k1, y0, y1, y2⟩ := wins_read hWi hmW
              have hst := wins_take hWi hmW
              have hbb := HBD.out W[m] (List.getElem_mem hmW)
              generalize W[m] = pm at *
              obtain ⟨pa, pb⟩ := pm
              obtain ⟨x1, x2, x3, x4⟩ := hbb
              simp only at k0 k1 hst x1 x2 x3 x4
              have HST := Lib.hid hst
              have HGI := Lib.hid hgi
              have HUI := Lib.hid hui
              clear hst hgi hui hWi hmW
              go_wp2_with (fail)
              go_roundw
              case rel => exact ⟨m + 1, by go_num, by omega, HST.out, heap_setCell_ne HGI.out hGg _ _, HUI.out.setCell (.inr hg2) _⟩
              case measure => simp [intOf]; omega
            · have e : m = ws.length + 1 := by omega
              subst e
              have hall := hWi
              rw [show ws.length + 1 = W.length from HWL.out.symm, upto_all] at hall
              rw [show W.length = ws.length + 1 from HWL.out] at hall
              have HALL := Lib.hid hall
              have HUI := Lib.hid hui
              clear hall hui hWi
              go_wp2_with (fail)
              refine Calls.mono (HDEL.out _ hgi) ?_
              rintro e w8 ⟨rfl, hu8, hg8⟩
              go_wp2_with (fail)
              refine Calls.mono (HSRV.out _ hg8) ?_
              rintro e w9 ⟨rfl, hu9, hg9⟩
              have hu89 := hu8.trans' hu9
              have hW9 := HALL.out.upd hu89 (by intro x hx hm; simp [blkL] at hx hm; subst hx; exact hGg hm.symm)
              have hu9' : Upd [] w w9 := HUI.out.trans hu89 (by simp; omega)
              go_wp2_with (fail)
              go_roundw
              case rel => exact ⟨ws.length + 1, gp, W.map (wtake (16 + N)), by go_num, by omega, (by rw [List.length_map]; exact HWL.out), winAt_of hW9 (by rw [List.length_map]; exact HWL.out.symm), hg9, HP4.out, HPR.out, HPU2.out, HFW.out, hu9'⟩
              case measure => simp [intOf]; omega
      · have hq : (act == 1) = false := by simp [ha1]
        have hq2 : (act != 1) = true := by simp [ha1]
        have HQ := Lib.hid ha1
        clear ha1
        go_wp2_with (at_builtin; refine wpList_append_sub _ rfl _ _ 64 rfl w.heap.size 68 i0 _ 2 16 Try.underlying64 hi0 hz0 hz1 hz2 rfl (by decide) (.slice ao ws.length vcap) ws.length _ rfl ((HW.out.upd0 ((Upd.refl _ _).alloc _)).upd0 ((Upd.refl _ _).alloc _)) _ 1 1 [i64 0, i64 0] rfl (src_block (by first | exact heap_alloc_new _ _ | exact heap_new2 _ _ _) 1 1) rfl (by intro u hu; simp at hu; subst hu; rfl) hmx63 (by omega) (by simp; omega) ?_; intro ao' vcap' w5 hs5 hu5 hb5; have hS5 := hu5.keep (heap_alloc_old (heap_alloc_new wr (.cells #[i64 act, i64 kd, i64 n, i64 q1, i64 q2, i64 q3, i64 q4, i64 q5, i64 q6, i64 q7, i64 q8, i64 q9] 66)) _) HSV.out; have hg5 := hu5.keep (heap_alloc_old (heap_alloc_old HG.out _) _) HGV.out; have hu5' : Upd [] w w5 := ((HU.out.alloc _).alloc _).trans hu5 (fun x hx => .inr (HVB.out x hx)); obtain ⟨e0, e1, e2, -⟩ := cells12 hS5; have HW5 := Lib.hid hs5; have HU5 := Lib.hid hu5'; have HS5 := Lib.hid hS5; have HG5 := Lib.hid hg5; clear hs5 hu5 hb5 hS5 hg5 hu5')
        obtain ⟨ao6, vcap6, e6, -, hne⟩ := HW5.out.form
        injection e6 with e6 _ e7
        subst e6
        subst e7
        obtain ⟨g2, off2, rfl, hg2, -, -⟩ := hne (by omega)
        have hGg : G ≠ g2 := by
          rintro rfl
          obtain ⟨cs, hc⟩ := HW5.out.ty G (by simp [blkL])
          have hx := HG5.out.symm.trans hc
          injection hx with hx; injection hx with _ hx; cases hx
        refine Calls.mono (gtick_c HG5.out HT.out.ok) ?_
        rintro e w6 ⟨rfl, hu6, hg6⟩
        have hW6 : Sub w6 w.heap.size 68 2 (.slice (some ⟨g2, off2, none⟩) (ws.length + 1) vcap') (ws.length + 1) (wcells (upto wtick 0 (ws ++ [(0, 0)]))) := by
          rw [upto_zero, HWC.out]
          exact HW5.out.upd hu6 (by intro x hx hm; simp [blkL] at hx hm; subst hx; exact hGg hm.symm)
        have hu6' : Upd [] w w6 := HU5.out.trans hu6 (by simp; omega)
        have HTT := Lib.hid (gtok_tick HT.out)
        have HTW := Lib.hid (gwin_tick HPU.out.1 hr1)
        have hgtt : g.tick.t = min (g.t + g.r) g.u := rfl
        have hgtr : g.tick.r = g.r := rfl
        have hgtu : g.tick.u = g.u := rfl
        rw [HGR.out, HGU.out] at hgtt
        rw [HGR.out] at hgtr
        rw [HGU.out] at hgtu
        have HGT := Lib.hid hgtt
        have HGTR := Lib.hid hgtr
        have HGTU := Lib.hid hgtu
        have hWl : (ws ++ [((0, 0) : Int × Int)]).length = ws.length + 1 := by simp
        have HBD : Hid (∀ p ∈ ws ++ [((0, 0) : Int × Int)], 0 ≤ p.1 ∧ p.1 ≤ 1048576 ∧ 0 ≤ p.2 ∧ p.2 ≤ 1000) := Lib.hid (by
          intro p hp
          have := HPU.out.1.bd p hp
          omega)
        clear hgtt hgtr hgtu c0 c1 c2 c3 c4 c5 c6 c7 c8 c9 c10 c11 e0 e1 e2 HPU hu6 HW HG HU HU5 HW5 HG5 HS5 HSV HGV HVB HWC
        generalize g.tick = g6 at *
        generalize ws ++ [((0, 0) : Int × Int)] = W at *
        have HWL := Lib.hid hWl
        clear hWl
        go_wp2_with (fail)
        go_loopw [11] (fun j wi => ∃ m : Nat, j = i64 m ∧ m ≤ ws.length + 1 ∧ Sub wi w.heap.size 68 2 (.slice (some ⟨g2, off2, none⟩) (ws.length + 1) vcap') (ws.length + 1) (wcells (upto wtick m W)) ∧ GtAt wi G g6 ∧ Upd [] w wi) (fun j _ => ws.length + 1 - (intOf j).toNat)
        case atStart => exact ⟨0, rfl, Nat.zero_le _, hW6, hg6, hu6'⟩
        case round =>
          clear hW6 hg6 hu6'
          obtain ⟨m, rfl, hm, hWi, hgi, hui⟩ := hrel
          by_cases hml : m < ws.length + 1
          · have hmW : m < W.length := by rw [HWL.out]; exact hml
            obtain ⟨k0, k1, y0, y1, y2⟩ := wins_read hWi hmW
            have hst := wins_tick hWi hmW
            have hbb := HBD.out W[m] (List.getElem_mem hmW)
            generalize W[m] = pm at *
            clear hmW
            obtain ⟨pa, pb⟩ := pm
            obtain ⟨x1, x2, x3, x4⟩ := hbb
            simp only at k0 k1 hst x1 x2 x3 x4
            have HST := Lib.hid hst
            have HGI := Lib.hid hgi
            have HUI := Lib.hid hui
            clear hst hgi hui hWi
            go_wp2_with (fail)
            go_roundw
            case rel => exact ⟨m + 1, by go_num, by omega, HST.out, heap_setCell_ne HGI.out hGg _ _, HUI.out.setCell (.inr hg2) _⟩
            case measure => simp [intOf]; omega
          · have e : m = ws.length + 1 := by omega
            subst e
            have hall := hWi
            rw [show ws.length + 1 = W.length from HWL.out.symm, upto_all] at hall
            rw [show W.length = ws.length + 1 from HWL.out] at hall
            have HALL := Lib.hid hall
            have HGI := Lib.hid hgi
            have HUI := Lib.hid hui
            clear hall hgi hui hWi
            go_wp2_with (fail)
            go_roundw
            case rel => exact ⟨ws.length + 1, g6, W.map wtick, by go_num, by omega, by rw [List.length_map]; exact HWL.out, winAt_of HALL.out (by rw [List.length_map]; exact HWL.out.symm), HGI.out, HTT.out, HGTR.out, HGTU.out, by rw [HGT.out]; exact HTW.out, HUI.out⟩
            case measure => simp [intOf]; omega
    · have e : ws.length = l.length := by omega
      go_wp2_with (fail)
      refine Calls.mono (gawake_c _) ?_
      rintro e w5 ⟨rfl, hu5⟩
      go_wp2_with (fail)
      exact hR.out _ _ ⟨rfl, hu.trans' hu5⟩
set_option maxRecDepth 100000 in
set_option maxHeartbeats 2000000 in
theorem gwin0_c (c : Cf) (ao : Option Addr) (cap : Nat) (w : World) : Trues 10 #[.agg c.cells, .slice ao 0 cap] w := by
  unfold Trues
  have hmx := @maxR Try.prog
  have hmn := @minR Try.prog
  refine post fun R hR => ?_
  go_enter Try.func10, Try.ntmps10
  go_wp2_with (fail)
  go_quiet (fail)
  rename_i nq
  have hC0 := heap_drewN (heap_alloc_new w (.cells c.cells 60)) nq
  have hu0 := ((Upd.refl [] w).alloc (.cells c.cells 60)).drewN nq
  generalize (w.alloc (.cells c.cells 60)).drewN nq = w0 at *
  obtain ⟨c0, c1, c2, c3, c4, c5, c6, c7, c8, f0, f1, f2, f3, f4, f5, f6, f7, f8⟩ := cells9 hC0
  have hu1 : Upd [] w (((w0.setCell ⟨w.heap.size, 4, none⟩ (i64 1)).setCell ⟨w.heap.size, 3, none⟩ (i64 1040)).setCell ⟨w.heap.size, 5, none⟩ (i64 1)) := ((hu0.setCell (.inr (Nat.le_refl _)) _).setCell (.inr (Nat.le_refl _)) _).setCell (.inr (Nat.le_refl _)) _
  have HU1 := Lib.hid hu1
  clear hC0 hu0 hu1
  obtain ⟨rate, hrate⟩ : ∃ rate, rate = clamp c.rate 1048576 := ⟨_, rfl⟩
  obtain ⟨burst, hburst⟩ : ∃ burst, burst = clamp c.burst 1048576 := ⟨_, rfl⟩
  have hr1 : 0 ≤ rate := by rw [hrate]; unfold clamp; omega
  have hr2 : rate ≤ 1048576 := by rw [hrate]; unfold clamp; omega
  have hu1 : 0 ≤ burst := by rw [hburst]; unfold clamp; omega
  have hu2 : burst ≤ 1048576 := by rw [hburst]; unfold clamp; omega
  have hnew := gnew_c ⟨c.quantum, c.rate, c.burst, 1040, 1, 1, c.conns, c.state, c.decode⟩
  have htok := gtok_new ⟨c.quantum, c.rate, c.burst, 1040, 1, 1, c.conns, c.state, c.decode⟩ rfl rfl rfl
  have hgr : (Gt.new ⟨c.quantum, c.rate, c.burst, 1040, 1, 1, c.conns, c.state, c.decode⟩).r = rate := hrate.symm
  have hgu : (Gt.new ⟨c.quantum, c.rate, c.burst, 1040, 1, 1, c.conns, c.state, c.decode⟩).u = burst := hburst.symm
  have hgt : (Gt.new ⟨c.quantum, c.rate, c.burst, 1040, 1, 1, c.conns, c.state, c.decode⟩).t = burst := hburst.symm
  unfold clamp at hrate hburst
  rw [← hrate, ← hburst]
  generalize Gt.new ⟨c.quantum, c.rate, c.burst, 1040, 1, 1, c.conns, c.state, c.decode⟩ = g0 at *
  have HNEW := Lib.hid hnew
  have HTOK := Lib.hid htok
  have HGR := Lib.hid hgr
  have HGU := Lib.hid hgu
  have HGT := Lib.hid hgt
  clear hnew htok hgr hgu hgt hrate hburst
  go_wp2_with (fail)
  refine Calls.mono (HNEW.out _) ?_
  rintro e w1 ⟨G, rfl, hg1, huN, hG⟩
  have hw1 : Upd [] w w1 := HU1.out.trans' huN
  replace hG : w.heap.size ≤ G := Nat.le_trans HU1.out.size hG
  clear HU1 HNEW huN c0 c1 c2 c3 c4 c5 c6 c7 c8 f0 f1 f2 f3 f4 f5 f6 f7 f8
  go_wp2_with (fail)
  refine wp_loop_once ?_
  go_wp2_with (fail)
  refine Calls.mono (gawake_c _) ?_
  rintro e w5 ⟨rfl, hu5⟩
  go_wp2_with (fail)
  exact hR.out _ _ ⟨rfl, hw1.trans' hu5⟩

set_option maxRecDepth 100000 in
theorem gwin9_c (c : Cf) (ao : Option Addr) (n cap : Nat) (w : World) (hn : 150 < n) : Trues 10 #[.agg c.cells, .slice ao n cap] w := by
  unfold Trues
  refine post fun R hR => ?_
  go_enter Try.func10, Try.ntmps10
  go_wp2_with (fail)
  refine Calls.mono (gawake_c _) ?_
  rintro e w5 ⟨rfl, hu5⟩
  go_wp2_with (fail)
  exact hR.out _ _ ⟨rfl, ((Upd.refl _ _).alloc _).trans' hu5⟩

set_option maxRecDepth 100000 in
theorem gateWindows_walk {H : Type} {enc : TypeId × Value → H} {W : World} {base : Nat} {args : Array Value} {ds gs : List (DataW H)} {before : List MemPlace}
    (hval : ∀ (j : Nat) t v, Try.f10.params[j]? = some t → args[j]? = some v → Value.okWide Try.prog W .any base t v)
    (hW : DataW.Whole enc Try.prog Try.f10.params.toList [] false W args.toList ds gs before) : Trues 10 args W := by
  obtain ⟨p, q, hA, -, rfl, -, -⟩ := hW
  rw [Try.params10] at hA hval
  obtain ⟨v0, v1, d0, d1, p0, p1, rfl, rfl, rfl, h0, h1⟩ := trodAll_two hA
  obtain ⟨vs, rfl, hvs⟩ := open_struct Try.underlying60 flat_conf (hval 0 60 v0 rfl rfl) h0
  obtain ⟨c, rfl⟩ := Cf.parse vs hvs
  obtain ⟨ao, cap, l, rfl, hlc, hcap, hg, hl⟩ := open_list GStp.parse Try.underlying61 flat_gstep cells_gstep (by decide) (hval 1 61 v1 rfl rfl) h1
  by_cases hbig : 150 < l.length
  · exact gwin9_c c ao l.length cap W hbig
  · rcases hl with rfl | ⟨b, off, rfl, hr⟩
    · exact gwin0_c c ao cap W
    · cases l with
      | nil => exact gwin0_c c _ cap W
      | cons x r =>
        exact gwin_c c b off cap (x :: r) W (by omega) hr (World.block_lt_of_cell? W _ (hr 0 x rfl 0 (by decide))) hg

set_option maxRecDepth 100000 in
theorem gateWindows_lifted (os : Os) (started : os.Started) (H : Type) (enc : TypeId × Value → H) :
    ReturnsInHanded {} Try.checked os 10 .any (Rows.gateWindowsSpec.pre6 enc Try.prog Try.f10 Rows.gateWindowsRow.domain false) (Rows.gateWindowsSpec.post enc Try.prog Try.f10 false true false false) := by
  refine returnsInHanded_of_change (C := Try.checked) own started (by kernel_rfl) Try.func10
    (ChangeSpec.witness6 (enc := enc) (C := Try.checked) false ⟨#[], #[.agg #[.int .i64 0, .int .i64 0, .int .i64 0, .int .i64 0, .int .i64 0, .int .i64 0, .int .i64 0, .int .i64 0, .int .i64 0], .slice none 0 0], []⟩ 8 (by kernel_rfl) (by kernel_rfl) (by kernel_rfl) (by kernel_rfl)) ?_
  intro W base args ds gs before hval hW hcnd _
  refine Calls.mono (gateWindows_walk hval hW) fun e W' ⟨he, hu⟩ => ?_
  exact ⟨_, he, law_post rfl rfl (by kernel_rfl) hW (fun ds h => by match ds, h with | [_, _], _ => rfl) hu⟩

set_option maxRecDepth 100000 in
theorem gateWindows_over : Rows.gateWindowsRow.holds Try.pinned (OpenSpec.ofChange Rows.gateWindowsSpec) :=
  OpenClaim.holds_of_wide 10 Try.f10 rfl rfl rfl rfl rfl rfl rfl ⟨rfl, rfl, rfl, rfl, rfl⟩ rfl rfl rfl rfl rfl (by kernel_rfl) Try.func10 (by kernel_rfl)
    (of_decide_eq_true (by kernel_rfl)) (by unfold Func.isWrapper; first | (rw [if_pos (by decide +kernel)]; kernel_rfl) | (rw [if_neg (by decide +kernel)]; exact ⟨rfl, rfl⟩))
    (fun os started H enc _ => gateWindows_lifted os started H enc)

theorem gateWindows_proved : Rows.GateWindowsSaid := gateWindows_over
end Go.Proofs.Ytnhanldefebjbaa

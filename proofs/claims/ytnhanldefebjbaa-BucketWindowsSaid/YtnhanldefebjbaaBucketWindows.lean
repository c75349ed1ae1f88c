/-
  BucketWindows: what is taken between any two steps is at most the burst, and the rate times the ticks between, and a take is refused just if it would be more than that, of some time that ends then. For every rate, burst and list of steps. No condition.
-/
import Derived.Test.YtnhanldefebjbaaOpen
import Derived.Test.YtnhanldefebjbaaBWinLaw
import Derived.Test.YtnhanldefebjbaaBucketAwake
import Derived.Test.YtnhanldefebjbaaBkRef
import Derived.Test.YtnhanldefebjbaaBStep
import Derived.Deep.RegionHeld3
import Derived.Deep.DeepCutAuto
import Derived.Deep.CutBlock
import Derived.Outline
namespace Go.Proofs.Ytnhanldefebjbaa
open Go Go.RowKit Go.ChangeShapes Go.WideShapes Go.ChangeAt

theorem info_int : (Try.prog.info? 3).map (fun i => (i.zero, i.size, i.bytes)) = some (some (.int .i64 0), 1, 8) := by kernel_rfl

set_option maxRecDepth 100000 in
set_option maxHeartbeats 8000000 in
theorem bwin_c (rate burst : Int) (b off cap : Nat) (l : List BStep) (w : World) (hlen : l.length ≤ 120) (r1 : 0 ≤ rate) (r2 : rate ≤ 1000) (u1 : 0 ≤ burst) (u2 : burst ≤ 100000) (hrows : RowsAt w b off 3 BStep.cells l) (hb : b < w.heap.size) (hgood : ∀ x ∈ l, x.good) :
    Trues 7 #[i64 rate, i64 burst, .slice (some ⟨b, off, none⟩) l.length cap] w := by
  unfold Trues
  have HRows := Lib.hid hrows
  have HGood := Lib.hid hgood
  have hcl1 : clamp rate 1048576 = rate := by unfold clamp; omega
  have hcl2 : clamp burst 1048576 = burst := by unfold clamp; omega
  have hnew := new_c rate burst w
  rw [hcl1, hcl2] at hnew
  have HN := Lib.hid hnew
  obtain ⟨i0, hi0, hz0, hz1, hz2⟩ := info_parts info_int
  obtain ⟨Z, hZ⟩ : ∃ Z, Z = irow (List.replicate (l.length + 1) 0) := ⟨_, rfl⟩
  have hmk : ∀ wx, (Instr.makeSlice 54 (i64 ((l.length : Int) + 1)) (i64 ((l.length : Int) + 1))).run Try.prog wx = .ok (.slice (some ⟨wx.heap.size, 0, none⟩) (l.length + 1) (l.length + 1)) (wx.alloc (.cells Z 3)) := by
    intro wx
    have := run_make (P := Try.prog) wx 54 3 i0 _ Try.underlying54 hi0 hz0 .i64 .i64 ((l.length : Int) + 1) ((l.length : Int) + 1) (by omega) (by omega) (by rw [hz2]; omega) (by omega)
    rw [this, hz1, hZ, show ((l.length : Int) + 1).toNat = l.length + 1 by omega, Nat.mul_one]
    rw [show (Value.int IntKind.i64 0).cells = #[i64 0] from rfl, madeCells_irow]
  have HZ := Lib.hid hZ
  clear hrows hgood hcl1 hcl2 hnew hi0 hz0 hz1 hz2 hZ
  refine post fun R hR => ?_
  go_enter Try.func7, Try.ntmps7
  go_wp2_with (fail)
  refine HN.out.mono ?_
  rintro e w1 ⟨rfl, hu1, hh1⟩
  go_upto_region 4 with (fail)
  go_cut [8, 9] (fun v8 v9 wc => ∃ A B, v8 = .slice (some ⟨A, 0, none⟩) (l.length + 1) (l.length + 1) ∧ v9 = .slice (some ⟨B, 0, none⟩) (l.length + 1) (l.length + 1) ∧ A ≠ B ∧ w.heap.size < A ∧ w.heap.size < B ∧ wc.heap[A]? = some (.cells Z 3 (0, 0)) ∧ wc.heap[B]? = some (.cells Z 3 (0, 0)) ∧
      wc.heap[w.heap.size]? = some (.cells #[i64 rate, i64 burst, i64 burst] 56 (0, 0)) ∧ Upd [] w wc)
  case first =>
    have hlt := lt_of_heap hh1
    go_wp2_with (fail)
    go_region
    all_goals go_wp2_with (fail)
    all_goals go_meet
    all_goals
      case rel =>
        first
          | exact ⟨_, _, rfl, rfl, by omega, by omega, by omega, heap_drew (heap_new2 _ _ _), heap_drew (heap_alloc_old (heap_alloc_new _ _) _), heap_drew (heap_alloc_old (heap_alloc_old hh1 _) _), ((hu1.alloc _).alloc _).drew⟩
          | exact ⟨_, _, rfl, rfl, by omega, by omega, by omega, heap_drew (heap_alloc_old (heap_alloc_new _ _) _), heap_drew (heap_new2 _ _ _), heap_drew (heap_alloc_old (heap_alloc_old hh1 _) _), ((hu1.alloc _).alloc _).drew⟩
  case rest =>
    obtain ⟨A, B, rfl, rfl, hAB, hA0, hB0, hA, hB, hK, hu⟩ := hcut
    clear hh1 hu1 hmk HN
    rw [HZ.out] at hA hB
    go_wp2_with (fail)
    go_loopw [10] (fun i wr => ∃ (k : Nat) (tk ti : List Int) (T : Int), i = i64 k ∧ k ≤ l.length ∧ tk.length = l.length + 1 ∧ ti.length = l.length + 1 ∧ wr.heap[A]? = some (.cells (irow tk) 3 (0, 0)) ∧ wr.heap[B]? = some (.cells (irow ti) 3 (0, 0)) ∧
        wr.heap[w.heap.size]? = some (.cells #[i64 rate, i64 burst, i64 T] 56 (0, 0)) ∧ 0 ≤ T ∧ WinInv rate burst T tk ti k ∧ Upd [] w wr) (fun i _ => l.length - (intOf i).toNat)
    case atStart => exact ⟨0, _, _, burst, rfl, Nat.zero_le _, by simp, by simp, hA, hB, hK, u1, win_start _ _ _, hu⟩
    case round =>
      clear hA hB hK hu
      obtain ⟨k, tk, ti, T, rfl, hk, htk, hti, hA, hB, hK, hT, hW, hu⟩ := hrel
      by_cases hlt : k < l.length
      · obtain ⟨c0, c1, c2⟩ := brow HRows.out hu hb hlt
        obtain ⟨hs1, hs2, hs3⟩ := HGood.out l[k] (List.getElem_mem hlt)
        generalize l[k].kind = kd at *
        generalize l[k].n = n at *
        have ca := (cellOf hA k).trans (irow_get (by omega))
        have ca1 := (cellOf hA (k + 1)).trans (irow_get (by omega))
        have cb := (cellOf hB k).trans (irow_get (by omega))
        have cb1 := (cellOf hB (k + 1)).trans (irow_get (by omega))
        have fa := frzOf hA (k + 1)
        have fb := frzOf hB (k + 1)
        have b1 : (k : Int) + 1 < (l.length : Int) + 1 := by omega
        have ht1 := hW.tk0 k (Nat.le_refl _)
        have ht2 := hW.ti0 k (Nat.le_refl _)
        have HW := Lib.hid hW
        have HTK := Lib.hid htk
        have HTI := Lib.hid hti
        have sA : A < wr.heap.size := lt_of_heap hA
        have sB : B < wr.heap.size := lt_of_heap hB
        clear hW htk hti
        have hA4 : ((wr.setCell ⟨A, k + 1, none⟩ (i64 (nth tk k))).setCell ⟨B, k + 1, none⟩ (i64 (nth ti k))).heap[A]? = some (.cells (irow (tk.set (k + 1) (nth tk k))) 3 (0, 0)) := by
          rw [← irow_set]; exact heap_setCell_ne (heap_setCell hA _ _) hAB _ _
        have hB4 : ((wr.setCell ⟨A, k + 1, none⟩ (i64 (nth tk k))).setCell ⟨B, k + 1, none⟩ (i64 (nth ti k))).heap[B]? = some (.cells (irow (ti.set (k + 1) (nth ti k))) 3 (0, 0)) := by
          rw [← irow_set]; exact heap_setCell (heap_setCell_ne hB (Ne.symm hAB) _ _) _ _
        have hK4 : ((wr.setCell ⟨A, k + 1, none⟩ (i64 (nth tk k))).setCell ⟨B, k + 1, none⟩ (i64 (nth ti k))).heap[w.heap.size]? = some (.cells #[i64 rate, i64 burst, i64 T] 56 (0, 0)) :=
          heap_setCell_ne (heap_setCell_ne hK (by omega) _ _) (by omega) _ _
        have hu4 : Upd [] w ((wr.setCell ⟨A, k + 1, none⟩ (i64 (nth tk k))).setCell ⟨B, k + 1, none⟩ (i64 (nth ti k))) := (hu.setCell (.inr (by simp; omega)) _).setCell (.inr (by simp; omega)) _
        obtain ⟨w4, hw4⟩ : ∃ w4, w4 = (wr.setCell ⟨A, k + 1, none⟩ (i64 (nth tk k))).setCell ⟨B, k + 1, none⟩ (i64 (nth ti k)) := ⟨_, rfl⟩
        rw [← hw4] at hA4 hB4 hK4 hu4
        have HA4 := Lib.hid hA4
        have HB4 := Lib.hid hB4
        have HK4 := Lib.hid hK4
        have HU4 := Lib.hid hu4
        have HW4 := Lib.hid hw4
        clear hA hB hK hu hA4 hB4 hK4 hu4 hw4
        by_cases hk1 : kd = 1
        · have hq : (kd == 1) = true := by simp [hk1]
          have HQ := Lib.hid hk1
          clear hk1
          go_wp2_with (fail)
          rw [← HW4.out]
          clear ca ca1 cb cb1 fa fb c0 c1 c2
          have hbu := HW.out.burst
          refine (btick2_c HK4.out (by omega) (by omega)).mono ?_
          rintro e w5 ⟨rfl, hu5, hK5⟩
          have hA5 := hu5.keep HA4.out (by simp; omega)
          have hB5 := hu5.keep HB4.out (by simp; omega)
          have cb1 := (cellOf hB5 (k + 1)).trans (irow_get (by rw [List.length_set, HTI.out]; omega))
          rw [getD_set_self (by rw [HTI.out]; omega)] at cb1
          have fb := frzOf hB5 (k + 1)
          have hu5' : Upd [] w w5 := HU4.out.trans hu5 (by simp)
          have hs5 := lt_of_heap hB5
          go_wp2_with (fail)
          go_roundw
          case rel =>
            refine ⟨k + 1, tk.set (k + 1) (nth tk k), ti.set (k + 1) (nth ti k + 1), min (T + rate) burst, by go_num, by omega, by rw [List.length_set, HTK.out], ?_, heap_setCell_ne hA5 hAB _ _, ?_, heap_setCell_ne hK5 (by omega) _ _, (by omega : 0 ≤ min (T + rate) burst), ?_, hu5'.setCell (.inr (by simp; omega)) _⟩
            rotate_left 1
            · have := heap_setCell hB5 (k + 1) (i64 (nth ti k + 1))
              rw [irow_set, List.set_set] at this
              exact this
            · have := win_next HW.out 0 1 (T' := min (T + rate) burst) (by rw [HTK.out]; omega) (by rw [HTI.out]; omega) (.inr ⟨rfl, rfl, rfl⟩)
              rw [Int.add_zero] at this
              exact this
            · rw [List.length_set, HTI.out]
          case measure => simp [intOf]; omega
        · have hq : (kd == 1) = false := by simp [hk1]
          have HQ := Lib.hid hk1
          clear hk1
          by_cases hn0 : n < 0
          · have HW5 := win_next HW.out 0 0 (T' := T) (by rw [HTK.out]; omega) (by rw [HTI.out]; omega) (.inl ⟨rfl, by omega, by omega, by omega⟩)
            rw [Int.add_zero, Int.add_zero] at HW5
            have HW5' := Lib.hid HW5
            clear HW5
            go_wp2_with (fail)
            rw [← HW4.out]
            go_roundw
            case rel => exact ⟨k + 1, tk.set (k + 1) (nth tk k), ti.set (k + 1) (nth ti k), T, by go_num, by omega, by rw [List.length_set, HTK.out], by rw [List.length_set, HTI.out], HA4.out, HB4.out, HK4.out, hT, HW5'.out, HU4.out⟩
            case measure => simp [intOf]; omega
          · by_cases hn1 : 1073741824 < n
            · have HW5 := win_next HW.out 0 0 (T' := T) (by rw [HTK.out]; omega) (by rw [HTI.out]; omega) (.inl ⟨rfl, by omega, by omega, by omega⟩)
              rw [Int.add_zero, Int.add_zero] at HW5
              have HW5' := Lib.hid HW5
              clear HW5
              go_wp2_with (fail)
              rw [← HW4.out]
              go_roundw
              case rel => exact ⟨k + 1, tk.set (k + 1) (nth tk k), ti.set (k + 1) (nth ti k), T, by go_num, by omega, by rw [List.length_set, HTK.out], by rw [List.length_set, HTI.out], HA4.out, HB4.out, HK4.out, hT, HW5'.out, HU4.out⟩
              case measure => simp [intOf]; omega
            · have hcell : ∀ w5, Upd [] w4 w5 → ∀ j, j ≤ k → w5.cell? ⟨A, j, none⟩ = some (i64 (nth tk j)) ∧ w5.cell? ⟨B, j, none⟩ = some (i64 (nth ti j)) := by
                intro w5 hu5 j hj
                have h1 := (cellOf (hu5.keep0 HA4.out) j).trans (irow_get (by rw [List.length_set, HTK.out]; omega))
                have h2 := (cellOf (hu5.keep0 HB4.out) j).trans (irow_get (by rw [List.length_set, HTI.out]; omega))
                rw [getD_set_ne (by omega)] at h1 h2
                exact ⟨h1, h2⟩
              have HC := Lib.hid hcell
              have hfz := fitsB_zero rate burst n tk ti k
              have HF0 := Lib.hid hfz
              clear hcell hfz
              go_wp2_with (fail)
              rw [← HW4.out]
              clear ca ca1 cb cb1 fa fb c0 c1 c2
              go_loopw [12, 13] (fun f j wi => ∃ m : Nat, j = i64 m ∧ m ≤ k + 1 ∧ f = .bool (fitsB rate burst n tk ti k m) ∧ Upd [] w4 wi) (fun _ j _ => k + 1 - (intOf j).toNat)
              case atStart => exact ⟨0, rfl, Nat.zero_le _, by rw [HF0.out], Upd.refl _ _⟩
              case round =>
                obtain ⟨m, rfl, hm, rfl, hui⟩ := hrel
                by_cases hmk : m < k + 1
                · obtain ⟨ca, cb⟩ := HC.out _ hui k (Nat.le_refl _)
                  obtain ⟨da, db⟩ := HC.out _ hui m (by omega)
                  have hb1 := HW.out.tk0 m (by omega)
                  have hb2 := HW.out.ti0 m (by omega)
                  obtain ⟨g1, g2, g3⟩ := hb1
                  obtain ⟨g4, g5, g6⟩ := hb2
                  obtain ⟨g7, g8, g9⟩ := ht1
                  obtain ⟨g10, g11, g12⟩ := ht2
                  have hmul : 0 ≤ rate * (nth ti k - nth ti m) ∧ rate * (nth ti k - nth ti m) ≤ 1000 * 120 := by
                    refine ⟨Int.mul_nonneg r1 (by omega), ?_⟩
                    exact Int.mul_le_mul r2 (by omega) (by omega) (by omega)
                  obtain ⟨g13, g14⟩ := hmul
                  have i1 : (0 : Int) ≤ (k : Int) := by omega
                  have i2 : (k : Int) < (l.length : Int) + 1 := by omega
                  have i3 : (0 : Int) ≤ (m : Int) := by omega
                  have i4 : (m : Int) < (l.length : Int) + 1 := by omega
                  by_cases hf : fitsB rate burst n tk ti k m = true
                  · have W1 : IntKind.i64.wrap (nth tk k - nth tk m) = nth tk k - nth tk m := IntWalk.i64_in _ (by omega)
                    have W2 : IntKind.i64.wrap (nth tk k - nth tk m + n) = nth tk k - nth tk m + n := IntWalk.i64_in _ (by omega)
                    have W3 : IntKind.i64.wrap (nth ti k - nth ti m) = nth ti k - nth ti m := IntWalk.i64_in _ (by omega)
                    have W4 : IntKind.i64.wrap (rate * (nth ti k - nth ti m)) = rate * (nth ti k - nth ti m) := IntWalk.i64_in _ (by omega)
                    have W5 : IntKind.i64.wrap (burst + rate * (nth ti k - nth ti m)) = burst + rate * (nth ti k - nth ti m) := IntWalk.i64_in _ (by omega)
                    by_cases hc : nth tk k - nth tk m + n ≤ burst + rate * (nth ti k - nth ti m)
                    · have hfn := fitsB_yes hf hc
                      have hd : decide (nth tk k - nth tk m + n ≤ burst + rate * (nth ti k - nth ti m)) = true := by simpa using hc
                      have HFN := Lib.hid hfn
                      rw [hf]
                      clear hfn hc hf
                      generalize nth tk k = tkk at *
                      generalize nth ti k = tik at *
                      generalize nth tk m = tkm at *
                      generalize nth ti m = tim at *
                      go_wp2_with (fail)
                      go_quiet (fail)
                      go_wp2_with (fail)
                      go_roundw
                      case rel => exact ⟨m + 1, by go_num, by omega, by rw [HFN.out], hui.drewN _⟩
                      case measure => simp [intOf]; omega
                    · have hfn := fitsB_no hc
                      have hd : decide (nth tk k - nth tk m + n ≤ burst + rate * (nth ti k - nth ti m)) = false := by simpa using hc
                      have HFN := Lib.hid hfn
                      rw [hf]
                      clear hfn hc hf
                      generalize nth tk k = tkk at *
                      generalize nth ti k = tik at *
                      generalize nth tk m = tkm at *
                      generalize nth ti m = tim at *
                      go_wp2_with (fail)
                      go_quiet (fail)
                      go_wp2_with (fail)
                      go_roundw
                      case rel => exact ⟨m + 1, by go_num, by omega, by rw [HFN.out], hui.drewN _⟩
                      case measure => simp [intOf]; omega
                  · have hf' : fitsB rate burst n tk ti k m = false := by simpa using hf
                    have hfn := fitsB_stays hf'
                    have HFN := Lib.hid hfn
                    rw [hf']
                    clear hfn hf hf'
                    go_wp2_with (fail)
                    go_quiet (fail)
                    go_wp2_with (fail)
                    go_roundw
                    case rel => exact ⟨m + 1, by go_num, by omega, by rw [HFN.out], hui.drewN _⟩
                    case measure => simp [intOf]; omega
                · have hmk' : m = k + 1 := by omega
                  subst hmk'
                  have hbu := HW.out.burst
                  have hfa := fitsB_all (n := n) HW.out
                  rw [hfa]
                  have hK5 := hui.keep0 HK4.out
                  have hA5 := hui.keep0 HA4.out
                  have hB5 := hui.keep0 HB4.out
                  have hu5 : Upd [] w wr := HU4.out.trans' hui
                  have htk' := btake2_c hK5 n (by omega)
                  clear hfa hui
                  by_cases hnT : n ≤ T
                  · have e0 : takeErr T n = 0 := by unfold takeErr; rw [if_neg (by omega), if_neg (by omega)]
                    rw [e0, if_pos rfl] at htk'
                    have HT := Lib.hid htk'
                    have hdn : decide (n ≤ T) = true := by simpa using hnT
                    rw [hdn]
                    clear htk' e0 hdn
                    go_wp2_with (fail)
                    refine HT.out.mono ?_
                    rintro e w7 ⟨rfl, hu7, hK7⟩
                    have hA7 := hu7.keep hA5 (by simp; omega)
                    have hB7 := hu7.keep hB5 (by simp; omega)
                    have ca1 := (cellOf hA7 (k + 1)).trans (irow_get (by rw [List.length_set, HTK.out]; omega))
                    rw [getD_set_self (by rw [HTK.out]; omega)] at ca1
                    have fa := frzOf hA7 (k + 1)
                    have hu7' : Upd [] w w7 := hu5.trans hu7 (by simp)
                    have hs7 := lt_of_heap hA7
                    go_wp2_with (fail)
                    go_roundw
                    case rel =>
                      refine ⟨k + 1, tk.set (k + 1) (nth tk k + n), ti.set (k + 1) (nth ti k), T - n, by go_num, by omega, by rw [List.length_set, HTK.out], by rw [List.length_set, HTI.out], ?_, heap_setCell_ne hB7 (Ne.symm hAB) _ _, heap_setCell_ne hK7 (by omega) _ _, by omega, ?_, hu7'.setCell (.inr (by simp; omega)) _⟩
                      · have := heap_setCell hA7 (k + 1) (i64 (nth tk k + n))
                        rw [irow_set, List.set_set] at this
                        exact this
                      · have := win_next HW.out n 0 (T' := T - n) (by rw [HTK.out]; omega) (by rw [HTI.out]; omega) (.inl ⟨rfl, rfl, by omega, by omega⟩)
                        rw [Int.add_zero] at this
                        exact this
                    case measure => simp [intOf]; omega
                  · have e0 : takeErr T n = 14 := by unfold takeErr; rw [if_neg (by omega), if_pos (by omega)]
                    rw [e0, if_neg (by decide)] at htk'
                    have HT := Lib.hid htk'
                    have hdn : decide (n ≤ T) = false := by simpa using hnT
                    rw [hdn]
                    clear htk' e0 hdn
                    go_wp2_with (fail)
                    refine HT.out.mono ?_
                    rintro e w7 ⟨rfl, hu7, hK7⟩
                    have hA7 := hu7.keep hA5 (by simp; omega)
                    have hB7 := hu7.keep hB5 (by simp; omega)
                    have hu7' : Upd [] w w7 := hu5.trans hu7 (by simp)
                    go_wp2_with (fail)
                    go_roundw
                    case rel =>
                      have HW5 := win_next HW.out 0 0 (T' := T) (by rw [HTK.out]; omega) (by rw [HTI.out]; omega) (.inl ⟨rfl, by omega, by omega, by omega⟩)
                      rw [Int.add_zero, Int.add_zero] at HW5
                      exact ⟨k + 1, tk.set (k + 1) (nth tk k), ti.set (k + 1) (nth ti k), T, by go_num, by omega, by rw [List.length_set, HTK.out], by rw [List.length_set, HTI.out], hA7, hB7, hK7, hT, HW5, hu7'⟩
                    case measure => simp [intOf]; omega
      · have e : k = l.length := by omega
        go_wp2_with (fail)
        refine (bawake_c _).mono ?_
        rintro e w5 ⟨rfl, hu5⟩
        go_wp2_with (fail)
        exact hR.out _ _ ⟨rfl, hu.trans' hu5⟩

set_option maxRecDepth 100000 in
theorem bwin0_c (rate burst : Int) (ao : Option Addr) (cap : Nat) (w : World) (r1 : 0 ≤ rate) (r2 : rate ≤ 1000) (u1 : 0 ≤ burst) (u2 : burst ≤ 100000) :
    Trues 7 #[i64 rate, i64 burst, .slice ao 0 cap] w := by
  unfold Trues
  obtain ⟨i0, hi0, hz0, hz1, hz2⟩ := info_parts info_int
  have hmk : ∀ wx, (Instr.makeSlice 54 (i64 1) (i64 1)).run Try.prog wx = .ok (.slice (some ⟨wx.heap.size, 0, none⟩) 1 1) (wx.alloc (.cells #[i64 0] 3)) := by
    intro wx
    have := run_make (P := Try.prog) wx 54 3 i0 _ Try.underlying54 hi0 hz0 .i64 .i64 1 1 (by omega) (by omega) (by rw [hz2]; omega) (by omega)
    rw [this, hz1]
    rw [show (Value.int IntKind.i64 0).cells = #[i64 0] from rfl, madeCells_irow]
    rfl
  clear hi0 hz0 hz1 hz2
  refine post fun R hR => ?_
  go_enter Try.func7, Try.ntmps7
  go_wp2_with (fail)
  refine Calls.mono (new_c _ _ _) ?_
  rintro e w1 ⟨rfl, hu1, hh1⟩
  go_wp2_with (fail)
  go_region
  all_goals
    go_wp2_with (fail)
    refine wp_loop_once ?_
    go_wp2_with (fail)
    refine (bawake_c _).mono ?_
    rintro e w5 ⟨rfl, hu5⟩
    go_wp2_with (fail)
    exact hR.out _ _ ⟨rfl, (((hu1.alloc _).alloc _).drew).trans' hu5⟩

set_option maxRecDepth 100000 in
theorem bwin9_c (rate burst : Int) (ao : Option Addr) (n cap : Nat) (w : World) (hn : 120 < n ∨ rate < 0 ∨ 1000 < rate ∨ burst < 0 ∨ 100000 < burst) :
    Trues 7 #[i64 rate, i64 burst, .slice ao n cap] w := by
  unfold Trues
  by_cases h1 : 120 < n
  · refine post fun R hR => ?_
    go_enter Try.func7, Try.ntmps7
    go_wp2_with (fail)
    refine (bawake_c _).mono ?_
    rintro e w5 ⟨rfl, hu5⟩
    go_wp2_with (fail)
    exact hR.out _ _ ⟨rfl, hu5⟩
  · by_cases h2 : rate < 0
    · refine post fun R hR => ?_
      go_enter Try.func7, Try.ntmps7
      go_wp2_with (fail)
      refine (bawake_c _).mono ?_
      rintro e w5 ⟨rfl, hu5⟩
      go_wp2_with (fail)
      exact hR.out _ _ ⟨rfl, hu5⟩
    · by_cases h3 : 1000 < rate
      · refine post fun R hR => ?_
        go_enter Try.func7, Try.ntmps7
        go_wp2_with (fail)
        refine (bawake_c _).mono ?_
        rintro e w5 ⟨rfl, hu5⟩
        go_wp2_with (fail)
        exact hR.out _ _ ⟨rfl, hu5⟩
      · by_cases h4 : burst < 0
        · refine post fun R hR => ?_
          go_enter Try.func7, Try.ntmps7
          go_wp2_with (fail)
          refine (bawake_c _).mono ?_
          rintro e w5 ⟨rfl, hu5⟩
          go_wp2_with (fail)
          exact hR.out _ _ ⟨rfl, hu5⟩
        · have h5 : 100000 < burst := by omega
          refine post fun R hR => ?_
          go_enter Try.func7, Try.ntmps7
          go_wp2_with (fail)
          refine (bawake_c _).mono ?_
          rintro e w5 ⟨rfl, hu5⟩
          go_wp2_with (fail)
          exact hR.out _ _ ⟨rfl, hu5⟩

set_option maxRecDepth 100000 in
theorem bucketWindows_walk {H : Type} {enc : TypeId × Value → H} {W : World} {base : Nat} {args : Array Value} {ds gs : List (DataW H)} {before : List MemPlace}
    (hval : ∀ (j : Nat) t v, Try.f7.params[j]? = some t → args[j]? = some v → Value.okWide Try.prog W .any base t v)
    (hW : DataW.Whole enc Try.prog Try.f7.params.toList [] false W args.toList ds gs before) : Trues 7 args W := by
  obtain ⟨p, q, hA, -, rfl, -, -⟩ := hW
  rw [Try.params7] at hA hval
  obtain ⟨v0, v1, v2, d0, d1, d2, p0, p1, p2, rfl, rfl, rfl, h0, h1, h2⟩ := trodAll_three hA
  obtain ⟨rate, rfl, rfl, rfl, wn⟩ := open_int Try.underlying3 (hval 0 3 v0 rfl rfl) h0
  obtain ⟨burst, rfl, rfl, rfl, wm⟩ := open_int Try.underlying3 (hval 1 3 v1 rfl rfl) h1
  obtain ⟨ao, cap, l, rfl, hlc, hcap, hg, hl⟩ := open_list BStep.parse Try.underlying42 flat_bstep cells_bstep (by decide) (hval 2 42 v2 rfl rfl) h2
  by_cases hbig : 120 < l.length ∨ rate < 0 ∨ 1000 < rate ∨ burst < 0 ∨ 100000 < burst
  · exact bwin9_c rate burst ao l.length cap W hbig
  · have q1 : l.length ≤ 120 := by omega
    have q2 : 0 ≤ rate := by omega
    have q3 : rate ≤ 1000 := by omega
    have q4 : 0 ≤ burst := by omega
    have q5 : burst ≤ 100000 := by omega
    rcases hl with rfl | ⟨b, off, rfl, hr⟩
    · exact bwin0_c rate burst ao cap W q2 q3 q4 q5
    · cases l with
      | nil => exact bwin0_c rate burst _ cap W q2 q3 q4 q5
      | cons x r =>
        exact bwin_c rate burst b off cap (x :: r) W q1 q2 q3 q4 q5 hr (World.block_lt_of_cell? W _ (hr 0 x rfl 0 (by decide))) hg

set_option maxRecDepth 100000 in
theorem bucketWindows_lifted (os : Os) (started : os.Started) (H : Type) (enc : TypeId × Value → H) :
    ReturnsInHanded {} Try.checked os 7 .any (Rows.bucketWindowsSpec.pre6 enc Try.prog Try.f7 Rows.bucketWindowsRow.domain false) (Rows.bucketWindowsSpec.post enc Try.prog Try.f7 false true false false) := by
  refine returnsInHanded_of_change (C := Try.checked) own started (by kernel_rfl) Try.func7
    (ChangeSpec.witness6 (enc := enc) (C := Try.checked) false ⟨#[], #[.int .i64 0, .int .i64 0, .slice none 0 0], []⟩ 8 (by kernel_rfl) (by kernel_rfl) (by kernel_rfl) (by kernel_rfl)) ?_
  intro W base args ds gs before hval hW hcnd _
  refine Calls.mono (bucketWindows_walk hval hW) fun e W' ⟨he, hu⟩ => ?_
  exact ⟨_, he, law_post rfl rfl (by kernel_rfl) hW (fun ds h => by match ds, h with | [_, _, _], _ => rfl) hu⟩

set_option maxRecDepth 100000 in
theorem bucketWindows_over : Rows.bucketWindowsRow.holds Try.pinned (OpenSpec.ofChange Rows.bucketWindowsSpec) :=
  OpenClaim.holds_of_wide 7 Try.f7 rfl rfl rfl rfl rfl rfl rfl ⟨rfl, rfl, rfl, rfl, rfl⟩ rfl rfl rfl rfl rfl (by kernel_rfl) Try.func7 (by kernel_rfl)
    (of_decide_eq_true (by kernel_rfl)) (by unfold Func.isWrapper; first | (rw [if_pos (by decide +kernel)]; kernel_rfl) | (rw [if_neg (by decide +kernel)]; exact ⟨rfl, rfl⟩))
    (fun os started H enc _ => bucketWindows_lifted os started H enc)

theorem bucketWindows_proved : Rows.BucketWindowsSaid := bucketWindows_over
end Go.Proofs.Ytnhanldefebjbaa

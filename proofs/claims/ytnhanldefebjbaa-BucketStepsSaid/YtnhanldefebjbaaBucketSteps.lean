/-
  BucketSteps: what any steps do to any bucket, one behind the other. For every rate, burst and list of steps. No condition.
-/
import Derived.Test.YtnhanldefebjbaaOpen
import Derived.Test.YtnhanldefebjbaaBucketAwake
import Derived.Test.YtnhanldefebjbaaBkRef
import Derived.Deep.RegionHeld3
import Derived.Deep.DeepCutAuto
import Derived.Deep.CutBlock
namespace Go.Proofs.Ytnhanldefebjbaa
open Go Go.RowKit Go.ChangeShapes Go.WideShapes Go.ChangeAt

structure BStep where
  kind : Int
  n : Int
  m : Int
def BStep.cells (s : BStep) : List Value := [i64 s.kind, i64 s.n, i64 s.m]
def BStep.good (s : BStep) : Prop := (-9223372036854775808 ≤ s.kind ∧ s.kind ≤ 9223372036854775807) ∧ (-9223372036854775808 ≤ s.n ∧ s.n ≤ 9223372036854775807) ∧ (-9223372036854775808 ≤ s.m ∧ s.m ≤ 9223372036854775807)

theorem BStep.parse (vs : List Value) (h : AllOK [.int .i64, .int .i64, .int .i64] vs) : ∃ s, BStep.cells s = vs ∧ BStep.good s := by
  obtain ⟨a, r, rfl, ha, h⟩ := h.i64
  obtain ⟨b, r, rfl, hb, h⟩ := h.i64
  obtain ⟨c, r, rfl, hc, h⟩ := h.i64
  obtain rfl := h.none
  exact ⟨⟨a, b, c⟩, rfl, ha, hb, hc⟩

theorem flat_bstep : flat Try.prog 5 49 = some [.int .i64, .int .i64, .int .i64] := by kernel_rfl
theorem cells_bstep : Try.prog.cellsOf 49 = 3 := by kernel_rfl

/-- the cells of the k-th row, in whatever later world -/
theorem brow {w wr : World} {b off : Nat} {l : List BStep} (hr : RowsAt w b off 3 BStep.cells l) (hu : Upd [] w wr) (hb : b < w.heap.size) {k : Nat} (hk : k < l.length) :
    wr.cell? ⟨b, off + k * 3, none⟩ = some (i64 (l[k].kind)) ∧ wr.cell? ⟨b, off + k * 3 + 1, none⟩ = some (i64 (l[k].n)) ∧ wr.cell? ⟨b, off + k * 3 + 2, none⟩ = some (i64 (l[k].m)) := by
  have h0 := hr k l[k] (List.getElem?_eq_getElem hk)
  exact ⟨(hu.below.cell (p := ⟨b, off + k * 3, none⟩) hb).trans (h0 0 (by omega)), (hu.below.cell (p := ⟨b, off + k * 3 + 1, none⟩) hb).trans (h0 1 (by omega)), (hu.below.cell (p := ⟨b, off + k * 3 + 2, none⟩) hb).trans (h0 2 (by omega))⟩

set_option maxRecDepth 100000 in
set_option maxHeartbeats 4000000 in
theorem bsteps_c (rate burst : Int) (b off cap : Nat) (l : List BStep) (w : World) (hlen : l.length ≤ 1000) (hrows : RowsAt w b off 3 BStep.cells l) (hb : b < w.heap.size) (hgood : ∀ x ∈ l, x.good) :
    Trues 6 #[i64 rate, i64 burst, .slice (some ⟨b, off, none⟩) l.length cap] w := by
  unfold Trues
  have HRows := Lib.hid hrows
  have HGood := Lib.hid hgood
  clear hrows hgood
  refine post fun R hR => ?_
  go_enter Try.func6, Try.ntmps6
  go_wp2_with (fail)
  refine Calls.mono (new_c _ _ _) ?_
  rintro e w1 ⟨rfl, hu1, hh1⟩
  go_wp2_with (fail)
  refine Calls.mono (rbnew_c _ _ _) ?_
  rintro e w2 ⟨rfl, hu2⟩
  go_wp2_with (fail)
  have hA2 := heap_alloc_old (hu2.keep0 hh1) (.cells #[i64 (clamp rate 1048576), i64 (clamp burst 1048576), i64 (clamp burst 1048576)] 46)
  have hB2 := heap_alloc_new w2 (.cells #[i64 (clamp rate 1048576), i64 (clamp burst 1048576), i64 (clamp burst 1048576)] 46)
  have hAB : w.heap.size < w2.heap.size := Nat.lt_of_lt_of_le (lt_of_heap hh1) hu2.size
  have hu3 := (hu1.trans' hu2).alloc (.cells #[i64 (clamp rate 1048576), i64 (clamp burst 1048576), i64 (clamp burst 1048576)] 46)
  have hbd1 : 0 ≤ clamp rate 1048576 ∧ clamp rate 1048576 ≤ 1048576 := by unfold clamp; omega
  have hbd2 : 0 ≤ clamp burst 1048576 ∧ clamp burst 1048576 ≤ 1048576 := by unfold clamp; omega
  generalize clamp rate 1048576 = r0 at *
  generalize clamp burst 1048576 = u0 at *
  generalize hw3 : w2.alloc _ = w3 at *
  generalize hB : w2.heap.size = B at *
  clear hw3 hu1 hu2 hh1
  go_loopw [9] (fun i wr => ∃ (k : Nat) (r u t : Int), i = i64 k ∧ k ≤ l.length ∧ wr.heap[w.heap.size]? = some (.cells #[i64 r, i64 u, i64 t] 56 (0, 0)) ∧
      wr.heap[B]? = some (.cells #[i64 r, i64 u, i64 t] 46 (0, 0)) ∧ (0 ≤ r ∧ r ≤ 1048576) ∧ (0 ≤ u ∧ u ≤ 1048576) ∧ (0 ≤ t ∧ t ≤ u) ∧ Upd [] w wr)
    (fun i _ => l.length - (intOf i).toNat)
  case atStart => exact ⟨0, r0, u0, u0, rfl, Nat.zero_le _, hA2, hB2, hbd1, hbd2, by omega, hu3⟩
  case round =>
    clear hA2 hB2 hu3 hbd1 hbd2
    obtain ⟨k, r, u, t, rfl, hk, hA, hB1, hr, hu', ht, hu⟩ := hrel
    by_cases hlt : k < l.length
    · obtain ⟨c0, c1, c2⟩ := brow HRows.out hu hb hlt
      obtain ⟨hs1, hs2, hs3⟩ := HGood.out l[k] (List.getElem_mem hlt)
      generalize l[k].kind = kd at *
      generalize l[k].n = n at *
      generalize l[k].m = m at *
      go_upto_block 2 with (fail)
      have s0 : w.heap.size < wr.heap.size := lt_of_heap hA
      have s1 : B < wr.heap.size := lt_of_heap hB1
      have hS := heap_alloc_new wr (.cells #[i64 kd, i64 n, i64 m] 49)
      have hA1 := heap_alloc_old hA (.cells #[i64 kd, i64 n, i64 m] 49)
      have hB2 := heap_alloc_old hB1 (.cells #[i64 kd, i64 n, i64 m] 49)
      have huS := hu.alloc (.cells #[i64 kd, i64 n, i64 m] 49)
      have s2 : (wr.alloc (.cells #[i64 kd, i64 n, i64 m] 49)).heap.size = wr.heap.size + 1 := by simp
      clear c0 c1 c2 hA hB1 hu
      go_cut [11] (fun x wc => ∃ r' u' t', wc.heap[w.heap.size]? = some (.cells #[i64 r', i64 u', i64 t'] 56 (0, 0)) ∧
        wc.heap[B]? = some (.cells #[i64 r', i64 u', i64 t'] 46 (0, 0)) ∧ (0 ≤ r' ∧ r' ≤ 1048576) ∧ (0 ≤ u' ∧ u' ≤ 1048576) ∧ (0 ≤ t' ∧ t' ≤ u') ∧ Upd [] w wc)
      case first =>
        generalize hw4 : wr.alloc _ = w4 at *
        generalize hSn : wr.heap.size = S at *
        clear hw4
        obtain ⟨e0, e1, e2, -⟩ := cells3 hS
        obtain ⟨d0, d1, d2, f0, f1, f2⟩ := cells3 hB2
        by_cases hk1 : kd = 1
        · have hq : (kd == 1) = true := by simp [hk1]
          have HQ := Lib.hid hk1
          clear hk1
          go_wp2_with (fail)
          refine Calls.mono (btick2_c hA1 hr (by omega)) ?_
          rintro e w5 ⟨rfl, hu5, hA5⟩
          have hB5 := hu5.keep hB2 (by simp; omega)
          obtain ⟨g0, g1, g2, -⟩ := cells3 hB5
          go_wp2_with (fail)
          refine Calls.mono (rbtick_c r u t _ hr hu' (by omega)) ?_
          rintro e w6 ⟨rfl, hu6⟩
          have hA6 := hu6.keep0 hA5
          have hB6 := hu6.keep0 hB5
          obtain ⟨h0, h1, h2, p0, p1, p2⟩ := cells3 hB6
          have s6 : B < w6.heap.size := lt_of_heap hB6
          go_wp2_with (fail)
          go_meet
          case rel =>
            refine ⟨r, u, min (t + r) u, ?_, ?_, hr, hu', by omega, ?_⟩
            · (repeat' (first | (with_reducible exact hA6) | (with_reducible refine heap_setCell_ne ?_ (by omega) _ _) | (with_reducible refine heap_alloc_old ?_ _) | (with_reducible refine heap_drew ?_) | (with_reducible refine heap_drewN ?_ _)))
            · (repeat' (first | (with_reducible exact hB6) | (with_reducible refine heap_setCell_ne ?_ (by omega) _ _) | (with_reducible apply hset3_0) | (with_reducible apply hset3_1) | (with_reducible apply hset3_2) | (with_reducible refine heap_alloc_old ?_ _) | (with_reducible refine heap_drew ?_) | (with_reducible refine heap_drewN ?_ _)))
            · refine (huS.trans (S' := [w.heap.size]) (hu5.trans hu6 (by simp)) (by simp)).trans (S' := [B]) ?_ (by simp; omega)
              (repeat' (first | (with_reducible exact Upd.refl _ _) | (with_reducible assumption) | (with_reducible apply Upd.drew) | (with_reducible apply Upd.drewN) | (with_reducible apply Upd.alloc) | (with_reducible refine Upd.setCell ?_ (by simp) _) | (with_reducible refine Upd.setCell ?_ (by simp; omega) _)))
        · have hq : (kd == 1) = false := by simp [hk1]
          have HQ := Lib.hid hk1
          clear hk1
          by_cases hk2 : kd = 2
          · have hq2 : (kd == 2) = true := by simp [hk2]
            have HQ2 := Lib.hid hk2
            clear hk2
            have common : ∀ w5, Upd [w.heap.size] w4 w5 → w5.heap[B]? = some (.cells #[i64 r, i64 u, i64 t] 46 (0, 0)) ∧ w5.heap[S]? = some (.cells #[i64 kd, i64 n, i64 m] 49 (0, 0)) := fun w5 hu5 =>
              ⟨hu5.keep hB2 (by simp; omega), hu5.keep hS (by simp; omega)⟩
            have HC := Lib.hid common
            clear common
            by_cases hn0 : n < 0
            · have ex : takeErr t n = 1 := by unfold takeErr; rw [if_pos hn0]
              have ht1 := btake2_c hA1 n (by omega)
              rw [ex, if_neg (by omega)] at ht1
              have HT := Lib.hid ht1
              clear ht1 ex
              go_wp2_with (fail)
              refine Calls.mono HT.out ?_
              rintro e w5 ⟨rfl, hu5, hA5⟩
              go_wp2_with (fail)
              go_meet
              case rel => exact ⟨r, u, t, hA5, (HC.out _ hu5).1, hr, hu', ht, huS.trans hu5 (by simp)⟩
            · by_cases hn1 : t < n
              · have ex : takeErr t n = 14 := by unfold takeErr; rw [if_neg hn0, if_pos hn1]
                have ht1 := btake2_c hA1 n (by omega)
                rw [ex, if_neg (by omega)] at ht1
                have HT := Lib.hid ht1
                clear ht1 ex
                go_wp2_with (fail)
                refine Calls.mono HT.out ?_
                rintro e w5 ⟨rfl, hu5, hA5⟩
                go_wp2_with (fail)
                go_meet
                case rel => exact ⟨r, u, t, hA5, (HC.out _ hu5).1, hr, hu', ht, huS.trans hu5 (by simp)⟩
              · have ex : takeErr t n = 0 := by unfold takeErr; rw [if_neg hn0, if_neg hn1]
                have ht1 := btake2_c hA1 n (by omega)
                rw [ex, if_pos rfl] at ht1
                have HT := Lib.hid ht1
                clear ht1 ex
                go_wp2_with (fail)
                refine Calls.mono HT.out ?_
                rintro e w5 ⟨rfl, hu5, hA5⟩
                obtain ⟨hB5, hS5⟩ := HC.out _ hu5
                obtain ⟨g0, g1, g2, p0, p1, p2⟩ := cells3 hB5
                obtain ⟨i0, i1, i2, -⟩ := cells3 hS5
                go_wp2_with (fail)
                go_meet
                case rel =>
                  refine ⟨r, u, t - n, ?_, ?_, hr, hu', by omega, ?_⟩
                  · (repeat' (first | (with_reducible exact hA5) | (with_reducible refine heap_setCell_ne ?_ (by omega) _ _) | (with_reducible refine heap_alloc_old ?_ _) | (with_reducible refine heap_drew ?_) | (with_reducible refine heap_drewN ?_ _)))
                  · (repeat' (first | (with_reducible exact hB5) | (with_reducible refine heap_setCell_ne ?_ (by omega) _ _) | (with_reducible apply hset3_0) | (with_reducible apply hset3_1) | (with_reducible apply hset3_2) | (with_reducible refine heap_alloc_old ?_ _) | (with_reducible refine heap_drew ?_) | (with_reducible refine heap_drewN ?_ _)))
                  · refine (huS.trans (S' := [w.heap.size]) hu5 (by simp)).trans (S' := [B]) ?_ (by simp; omega)
                    (repeat' (first | (with_reducible exact Upd.refl _ _) | (with_reducible assumption) | (with_reducible apply Upd.drew) | (with_reducible apply Upd.drewN) | (with_reducible apply Upd.alloc) | (with_reducible refine Upd.setCell ?_ (by simp) _) | (with_reducible refine Upd.setCell ?_ (by simp; omega) _)))
          · have hq2 : (kd == 2) = false := by simp [hk2]
            have HQ2 := Lib.hid hk2
            clear hk2
            go_wp2_with (fail)
            refine Calls.mono (bset2_c hA1 n m) ?_
            rintro e w5 ⟨rfl, hu5, hA5⟩
            have hB5 := hu5.keep hB2 (by simp; omega)
            have hS5 := hu5.keep hS (by simp; omega)
            obtain ⟨g0, g1, g2, -⟩ := cells3 hB5
            obtain ⟨i0, i1, i2, -⟩ := cells3 hS5
            go_wp2_with (fail)
            refine Calls.mono (rbset_c r u t n m _ (by omega)) ?_
            rintro e w6 ⟨rfl, hu6⟩
            have hA6 := hu6.keep0 hA5
            have hB6 := hu6.keep0 hB5
            obtain ⟨h0, h1, h2, p0, p1, p2⟩ := cells3 hB6
            have s6 : B < w6.heap.size := lt_of_heap hB6
            have hbd1 : 0 ≤ clamp n 1048576 ∧ clamp n 1048576 ≤ 1048576 := by unfold clamp; omega
            have hbd2 : 0 ≤ clamp m 1048576 ∧ clamp m 1048576 ≤ 1048576 := by unfold clamp; omega
            go_wp2_with (fail)
            go_meet
            case rel =>
              refine ⟨_, _, _, ?_, ?_, hbd1, hbd2, (by omega : 0 ≤ min t (clamp m 1048576) ∧ min t (clamp m 1048576) ≤ clamp m 1048576), ?_⟩
              · (repeat' (first | (with_reducible exact hA6) | (with_reducible refine heap_setCell_ne ?_ (by omega) _ _) | (with_reducible refine heap_alloc_old ?_ _) | (with_reducible refine heap_drew ?_) | (with_reducible refine heap_drewN ?_ _)))
              · (repeat' (first | (with_reducible exact hB6) | (with_reducible refine heap_setCell_ne ?_ (by omega) _ _) | (with_reducible apply hset3_0) | (with_reducible apply hset3_1) | (with_reducible apply hset3_2) | (with_reducible refine heap_alloc_old ?_ _) | (with_reducible refine heap_drew ?_) | (with_reducible refine heap_drewN ?_ _)))
              · refine (huS.trans (S' := [w.heap.size]) (hu5.trans hu6 (by simp)) (by simp)).trans (S' := [B]) ?_ (by simp; omega)
                (repeat' (first | (with_reducible exact Upd.refl _ _) | (with_reducible assumption) | (with_reducible apply Upd.drew) | (with_reducible apply Upd.drewN) | (with_reducible apply Upd.alloc) | (with_reducible refine Upd.setCell ?_ (by simp) _) | (with_reducible refine Upd.setCell ?_ (by simp; omega) _)))
      case rest =>
        obtain ⟨r', u', t', hA4, hB4, hr4, hu4', ht4, hu4⟩ := hcut
        clear hS hA1 hB2 huS s2
        have htok := tokens_c (w := wc.drew) (off := 0) (r := r') (u := u') (t := t') ⟨hA4, rfl, rfl, rfl⟩
        have HT := Lib.hid htok
        clear htok
        go_wp2_with (fail)
        go_region_held3 (fun w' => w'.cell? ⟨B, 2, none⟩ = some (i64 t'))
          ((first | exact cellOf hB4 2 | exact cellOf hB5 2))
          ((first
            | (go_at_call 33; (with_reducible refine Calls.mono (HT.out) ?_); rintro e w5 ⟨rfl, rfl⟩)))
        all_goals go_wp2_with (fail)
        all_goals go_roundw
        case rel => exact ⟨k + 1, r', u', t', by go_num, by omega, hA4, hB4, hr4, hu4', ht4, hu4.drew⟩
        case measure => simp [intOf]; omega
    · have e : k = l.length := by omega
      go_wp2_with (fail)
      refine (bawake_c _).mono ?_
      rintro e w5 ⟨rfl, hu5⟩
      go_wp2_with (fail)
      exact hR.out _ _ ⟨rfl, hu.trans' hu5⟩

/-- no steps -/
theorem bsteps0_c (rate burst : Int) (ao : Option Addr) (cap : Nat) (w : World) :
    Trues 6 #[i64 rate, i64 burst, .slice ao 0 cap] w := by
  unfold Trues
  refine post fun R hR => ?_
  go_enter Try.func6, Try.ntmps6
  go_wp2_with (fail)
  refine Calls.mono (new_c _ _ _) ?_
  rintro e w1 ⟨rfl, hu1, hh1⟩
  go_wp2_with (fail)
  refine Calls.mono (rbnew_c _ _ _) ?_
  rintro e w2 ⟨rfl, hu2⟩
  go_wp2_with (fail)
  refine wp_loop_once ?_
  go_wp2_with (fail)
  refine (bawake_c _).mono ?_
  rintro e w5 ⟨rfl, hu5⟩
  go_wp2_with (fail)
  exact hR.out _ _ ⟨rfl, ((hu1.trans' hu2).alloc _).trans' hu5⟩

theorem bsteps9_c (rate burst : Int) (ao : Option Addr) (n cap : Nat) (w : World) (hn : 1000 < n) :
    Trues 6 #[i64 rate, i64 burst, .slice ao n cap] w := by
  unfold Trues
  refine post fun R hR => ?_
  go_enter Try.func6, Try.ntmps6
  go_wp2_with (fail)
  refine (bawake_c _).mono ?_
  rintro e w5 ⟨rfl, hu5⟩
  go_wp2_with (fail)
  exact hR.out _ _ ⟨rfl, hu5⟩

set_option maxRecDepth 100000 in
theorem bucketSteps_walk {H : Type} {enc : TypeId × Value → H} {W : World} {base : Nat} {args : Array Value} {ds gs : List (DataW H)} {before : List MemPlace}
    (hval : ∀ (j : Nat) t v, Try.f6.params[j]? = some t → args[j]? = some v → Value.okWide Try.prog W .any base t v)
    (hW : DataW.Whole enc Try.prog Try.f6.params.toList [] false W args.toList ds gs before) : Trues 6 args W := by
  obtain ⟨p, q, hA, -, rfl, -, -⟩ := hW
  rw [Try.params6] at hA hval
  obtain ⟨v0, v1, v2, d0, d1, d2, p0, p1, p2, rfl, rfl, rfl, h0, h1, h2⟩ := trodAll_three hA
  obtain ⟨rate, rfl, rfl, rfl, wn⟩ := open_int Try.underlying3 (hval 0 3 v0 rfl rfl) h0
  obtain ⟨burst, rfl, rfl, rfl, wm⟩ := open_int Try.underlying3 (hval 1 3 v1 rfl rfl) h1
  obtain ⟨ao, cap, l, rfl, hlc, hcap, hg, hl⟩ := open_list BStep.parse Try.underlying42 flat_bstep cells_bstep (by decide) (hval 2 42 v2 rfl rfl) h2
  by_cases hbig : 1000 < l.length
  · exact bsteps9_c rate burst ao l.length cap W hbig
  · rcases hl with rfl | ⟨b, off, rfl, hr⟩
    · exact bsteps0_c rate burst ao cap W
    · cases l with
      | nil => exact bsteps0_c rate burst _ cap W
      | cons x r =>
        exact bsteps_c rate burst b off cap (x :: r) W (by omega) hr (World.block_lt_of_cell? W _ (hr 0 x rfl 0 (by decide))) hg

set_option maxRecDepth 100000 in
theorem bucketSteps_lifted (os : Os) (started : os.Started) (H : Type) (enc : TypeId × Value → H) :
    ReturnsInHanded {} Try.checked os 6 .any (Rows.bucketStepsSpec.pre6 enc Try.prog Try.f6 Rows.bucketStepsRow.domain false) (Rows.bucketStepsSpec.post enc Try.prog Try.f6 false true false false) := by
  refine returnsInHanded_of_change (C := Try.checked) own started (by kernel_rfl) Try.func6
    (ChangeSpec.witness6 (enc := enc) (C := Try.checked) false ⟨#[], #[.int .i64 0, .int .i64 0, .slice none 0 0], []⟩ 8 (by kernel_rfl) (by kernel_rfl) (by kernel_rfl) (by kernel_rfl)) ?_
  intro W base args ds gs before hval hW hcnd _
  refine Calls.mono (bucketSteps_walk hval hW) fun e W' ⟨he, hu⟩ => ?_
  exact ⟨_, he, law_post rfl rfl (by kernel_rfl) hW (fun ds h => by match ds, h with | [_, _, _], _ => rfl) hu⟩

set_option maxRecDepth 100000 in
theorem bucketSteps_over : Rows.bucketStepsRow.holds Try.pinned (OpenSpec.ofChange Rows.bucketStepsSpec) :=
  OpenClaim.holds_of_wide 6 Try.f6 rfl rfl rfl rfl rfl rfl rfl ⟨rfl, rfl, rfl, rfl, rfl⟩ rfl rfl rfl rfl rfl (by kernel_rfl) Try.func6 (by kernel_rfl)
    (of_decide_eq_true (by kernel_rfl)) (by unfold Func.isWrapper; first | (rw [if_pos (by decide +kernel)]; kernel_rfl) | (rw [if_neg (by decide +kernel)]; exact ⟨rfl, rfl⟩))
    (fun os started H enc _ => bucketSteps_lifted os started H enc)

theorem bucketSteps_proved : Rows.BucketStepsSaid := bucketSteps_over
end Go.Proofs.Ytnhanldefebjbaa

/-
  AccountSteps: what any steps do to any account, one behind the other, and what is taken, and free, behind each. For every limit and every list of steps. No condition.
-/
import Derived.Test.YtnhanldefebjbaaOpen
import Derived.Test.YtnhanldefebjbaaAccountNone
import Derived.Test.YtnhanldefebjbaaAccRef
import Derived.Deep.RegionHeld3
import Derived.Deep.DeepCutAuto
import Derived.Deep.CutBlock
namespace Go.Proofs.Ytnhanldefebjbaa
open Go Go.RowKit Go.ChangeShapes Go.WideShapes Go.ChangeAt

structure AStep where
  kind : Int
  n : Int
def AStep.cells (s : AStep) : List Value := [i64 s.kind, i64 s.n]
def AStep.good (s : AStep) : Prop := (-9223372036854775808 ≤ s.kind ∧ s.kind ≤ 9223372036854775807) ∧ (-9223372036854775808 ≤ s.n ∧ s.n ≤ 9223372036854775807)

theorem AStep.parse (vs : List Value) (h : AllOK [.int .i64, .int .i64] vs) : ∃ s, AStep.cells s = vs ∧ AStep.good s := by
  obtain ⟨a, r, rfl, ha, h⟩ := h.i64
  obtain ⟨b, r, rfl, hb, h⟩ := h.i64
  obtain rfl := h.none
  exact ⟨⟨a, b⟩, rfl, ha, hb⟩

set_option maxRecDepth 100000 in
set_option maxHeartbeats 8000000 in
theorem asteps_c (limit : Int) (b off cap : Nat) (l : List AStep) (w : World) (hlen : l.length ≤ 2000) (hrows : RowsAt w b off 2 AStep.cells l) (hb : b < w.heap.size) (hgood : ∀ x ∈ l, x.good) :
    Trues 3 #[i64 limit, .slice (some ⟨b, off, none⟩) l.length cap] w := by
  unfold Trues
  refine post fun R hR => ?_
  go_enter Try.func3, Try.ntmps3
  have HRows := Lib.hid hrows
  have HGood := Lib.hid hgood
  clear hrows hgood
  go_wp2_with (fail)
  refine Calls.mono (anew_c _ _) ?_
  rintro e w1 ⟨rfl, hu1, hh1⟩
  go_wp2_with (fail)
  refine Calls.mono (rlimit_c _ _) ?_
  rintro e w2 ⟨rfl, hu2⟩
  go_wp2_with (fail)
  have hA2 := heap_alloc_old (hu2.keep0 hh1) (.cells #[i64 (max 0 (min limit 1048576)), i64 0] 28)
  have hB2 := heap_alloc_new w2 (.cells #[i64 (max 0 (min limit 1048576)), i64 0] 28)
  have hAB : w.heap.size < w2.heap.size := Nat.lt_of_lt_of_le (lt_of_heap hh1) hu2.size
  have hu3 := (hu1.trans' hu2).alloc (.cells #[i64 (max 0 (min limit 1048576)), i64 0] 28)
  have hlim : 0 ≤ max 0 (min limit 1048576) ∧ max 0 (min limit 1048576) ≤ 1048576 := by omega
  generalize max 0 (min limit 1048576) = lim0 at *
  generalize hw3 : w2.alloc _ = w3 at *
  generalize hB : w2.heap.size = B at *
  clear hw3 hu1 hu2 hh1
  go_loopw [7] (fun i wr => ∃ (k : Nat) (lim t : Int), i = i64 k ∧ k ≤ l.length ∧ wr.heap[w.heap.size]? = some (.cells #[i64 lim, i64 t] 40 (0, 0)) ∧
      wr.heap[B]? = some (.cells #[i64 lim, i64 t] 28 (0, 0)) ∧ (0 ≤ lim ∧ lim ≤ 1048576) ∧ (0 ≤ t ∧ t ≤ 1048576) ∧ Upd [] w wr)
    (fun i _ => l.length - (intOf i).toNat)
  case atStart => exact ⟨0, lim0, 0, rfl, Nat.zero_le _, hA2, hB2, hlim, by omega, hu3⟩
  case round =>
    clear hA2 hB2 hu3 hlim
    obtain ⟨k, lim, t, rfl, hk, hA, hB1, hlim, ht, hu⟩ := hrel
    by_cases hlt : k < l.length
    · obtain ⟨c0, c1⟩ : wr.cell? ⟨b, off + k * 2, none⟩ = some (i64 (l[k].kind)) ∧ wr.cell? ⟨b, off + k * 2 + 1, none⟩ = some (i64 (l[k].n)) := by
        have h0 := HRows.out k l[k] (List.getElem?_eq_getElem hlt)
        exact ⟨(hu.below.cell (p := ⟨b, off + k * 2, none⟩) hb).trans (h0 0 (by omega)), (hu.below.cell (p := ⟨b, off + k * 2 + 1, none⟩) hb).trans (h0 1 (by omega))⟩
      have hs := HGood.out l[k] (List.getElem_mem hlt)
      obtain ⟨hs1, hs2⟩ := hs
      generalize l[k].kind = kd at *
      generalize l[k].n = n at *
      go_upto_block 2 with (fail)
      go_cut [8, 9] (fun e x wc => ∃ err lim' t', e = i64 err ∧ x = i64 err ∧ wc.heap[w.heap.size]? = some (.cells #[i64 lim', i64 t'] 40 (0, 0)) ∧
        wc.heap[B]? = some (.cells #[i64 lim', i64 t'] 28 (0, 0)) ∧ (0 ≤ lim' ∧ lim' ≤ 1048576) ∧ (0 ≤ t' ∧ t' ≤ 1048576) ∧ Upd [] w wc)
      case first =>
        by_cases hk1 : kd = 1
        · have hq : (kd == 1) = true := by simp [hk1]
          have HQ := Lib.hid hk1
          clear hk1
          have hbd := take_bd (n := n) hlim ht
          go_wp2_with (fail)
          refine Calls.mono (atake2_c hA n hlim ht) ?_
          rintro e w4 ⟨rfl, hu4, hA4⟩
          have hB4 := hu4.keep hB1 (by simp; omega)
          have c1' : w4.cell? ⟨b, off + k * 2 + 1, none⟩ = some (i64 n) := (World.cell?_of_block (a := ⟨b, off + k * 2 + 1, none⟩) (hu4.block b (by have := hu.size; omega) (by simp; omega))).trans c1
          obtain ⟨d0, d1, -⟩ := cells2 hB4
          have n1 : w4.heap.size ≠ B := World.new_ne w4 ⟨B, 0, none⟩ d0
          have n2 : w4.heap.size ≠ b := World.new_ne w4 ⟨b, off + k * 2 + 1, none⟩ c1'
          have s0 : w.heap.size < wr.heap.size := lt_of_heap hA
          have s1 := hu.size
          have s2 := hu4.size
          clear c0 c1 hA hB1
          go_wp2_with (fail)
          go_region_held3 (fun w' => w'.cell? ⟨B, 0, none⟩ = some (i64 lim) ∧ w'.cell? ⟨B, 1, none⟩ = some (i64 t) ∧ w'.cell? ⟨b, off + k * 2 + 1, none⟩ = some (i64 n))
            (go_keep)
            ((first
              | (go_at_call 18; refine Calls.mono (rtake_c lim t n _ hlim ht) ?_; rintro e w5 ⟨rfl, hu5⟩; have hA5 := hu5.keep0 hA4; have hB5 := hu5.keep0 hB4; obtain ⟨e0, e1, f0, f1⟩ := cells2 hB5; have s4 : B < w5.heap.size := lt_of_heap hB5; have n3 : w5.heap.size ≠ B := World.new_ne w5 ⟨B, 0, none⟩ e0; have c1n := (World.cell?_of_block (a := ⟨b, off + k * 2 + 1, none⟩) (hu5.block b (by simp; omega) (by simp))).trans c1'; have n4 : w5.heap.size ≠ b := World.new_ne w5 ⟨b, off + k * 2 + 1, none⟩ c1n; have s3 : w4.heap.size ≤ w5.heap.size := hu5.size; have hu45 : Upd [w.heap.size] wr w5 := hu4.trans ((Upd.refl _ _).drew.trans' hu5) (by simp))
              | (go_at_call 18; refine Calls.mono (rtake_c lim t n _ hlim ht) ?_; rintro e w5 ⟨rfl, hu5⟩; have hA5 := hu5.keep0 (heap_alloc_old hA4 (.cells #[i64 0, i64 0] 28)); have hB5 := hu5.keep0 (heap_alloc_old hB4 (.cells #[i64 0, i64 0] 28)); have hT5 := hu5.keep0 (heap_alloc_new w4 (.cells #[i64 0, i64 0] 28)); obtain ⟨g0, g1, g2, g3⟩ := cells2 hT5; obtain ⟨e0, e1, f0, f1⟩ := cells2 hB5; have s4 : B < w5.heap.size := lt_of_heap hB5; have n3 : w5.heap.size ≠ B := World.new_ne w5 ⟨B, 0, none⟩ e0; have c1n := (World.cell?_of_block (a := ⟨b, off + k * 2 + 1, none⟩) (hu5.block b (by simp; omega) (by simp))).trans ((World.cell?_of_block (a := ⟨b, off + k * 2 + 1, none⟩) (Below.heap_alloc _ _ _ (by simp; omega))).trans c1'); have n4 : w5.heap.size ≠ b := World.new_ne w5 ⟨b, off + k * 2 + 1, none⟩ c1n; have s3 : w4.heap.size ≤ w5.heap.size := (by have := hu5.size; simp at this; omega); have hu45 : Upd [w.heap.size] wr w5 := hu4.trans ((((Upd.refl [] w4).alloc _).drew).trans' hu5) (by simp))))
          all_goals go_wp2_with (fail)
          all_goals go_meet
          all_goals
            case rel =>
              refine ⟨_, _, _, rfl, rfl, ?_, ?_, hlim, hbd, ?_⟩
              · (repeat' (first | (with_reducible exact hA5) | (with_reducible refine heap_setCell_ne ?_ (by omega) _ _) | (with_reducible refine heap_alloc_old ?_ _) | (with_reducible refine heap_drew ?_) | (with_reducible refine heap_drewN ?_ _)))
              · (repeat' (first | (with_reducible exact hB5) | (with_reducible refine heap_setCell_ne ?_ (by omega) _ _) | (with_reducible apply hset2_0) | (with_reducible apply hset2_1) | (with_reducible refine heap_alloc_old ?_ _) | (with_reducible refine heap_drew ?_) | (with_reducible refine heap_drewN ?_ _)))
              · refine hu.trans (S' := [w.heap.size, B, w4.heap.size]) ?_ (by simp; omega)
                have hz : Upd [w.heap.size, B, w4.heap.size] wr w5 := hu45.mono (by simp)
                (repeat' (first | (with_reducible exact hz) | (with_reducible exact Upd.refl _ _) | (with_reducible apply Upd.drew) | (with_reducible apply Upd.drewN) | (with_reducible apply Upd.alloc) | (with_reducible refine Upd.setCell ?_ (by simp) _) | (with_reducible refine Upd.setCell ?_ (.inr (by simp; omega)) _)))
        · by_cases hk2 : kd = 2
          · have hq : (kd == 1) = false := by simp [hk1]
            have hq2 : (kd == 2) = true := by simp [hk2]
            have HQ := Lib.hid hk1
            have HQ2 := Lib.hid hk2
            clear hk1 hk2
            have hbd := give_bd (n := n) ht
            go_wp2_with (fail)
            refine Calls.mono (agive2_c hA n ht) ?_
            rintro e w4 ⟨rfl, hu4, hA4⟩
            have hB4 := hu4.keep hB1 (by simp; omega)
            have c1' : w4.cell? ⟨b, off + k * 2 + 1, none⟩ = some (i64 n) := (World.cell?_of_block (a := ⟨b, off + k * 2 + 1, none⟩) (hu4.block b (by have := hu.size; omega) (by simp; omega))).trans c1
            obtain ⟨d0, d1, -⟩ := cells2 hB4
            have n1 : w4.heap.size ≠ B := World.new_ne w4 ⟨B, 0, none⟩ d0
            have n2 : w4.heap.size ≠ b := World.new_ne w4 ⟨b, off + k * 2 + 1, none⟩ c1'
            have s0 : w.heap.size < wr.heap.size := lt_of_heap hA
            have s1 := hu.size
            have s2 := hu4.size
            clear c0 c1 hA hB1
            go_wp2_with (fail)
            go_region_held3 (fun w' => w'.cell? ⟨B, 0, none⟩ = some (i64 lim) ∧ w'.cell? ⟨B, 1, none⟩ = some (i64 t) ∧ w'.cell? ⟨b, off + k * 2 + 1, none⟩ = some (i64 n))
              (go_keep)
              ((first
                | (go_at_call 20; refine Calls.mono (rgive_c lim t n _ ht) ?_; rintro e w5 ⟨rfl, hu5⟩; have hA5 := hu5.keep0 hA4; have hB5 := hu5.keep0 hB4; obtain ⟨e0, e1, f0, f1⟩ := cells2 hB5; have s4 : B < w5.heap.size := lt_of_heap hB5; have n3 : w5.heap.size ≠ B := World.new_ne w5 ⟨B, 0, none⟩ e0; have c1n := (World.cell?_of_block (a := ⟨b, off + k * 2 + 1, none⟩) (hu5.block b (by simp; omega) (by simp))).trans c1'; have n4 : w5.heap.size ≠ b := World.new_ne w5 ⟨b, off + k * 2 + 1, none⟩ c1n; have s3 : w4.heap.size ≤ w5.heap.size := hu5.size; have hu45 : Upd [w.heap.size] wr w5 := hu4.trans ((Upd.refl _ _).drew.trans' hu5) (by simp))
                | (go_at_call 20; refine Calls.mono (rgive_c lim t n _ ht) ?_; rintro e w5 ⟨rfl, hu5⟩; have hA5 := hu5.keep0 (heap_alloc_old hA4 (.cells #[i64 0, i64 0] 28)); have hB5 := hu5.keep0 (heap_alloc_old hB4 (.cells #[i64 0, i64 0] 28)); have hT5 := hu5.keep0 (heap_alloc_new w4 (.cells #[i64 0, i64 0] 28)); obtain ⟨g0, g1, g2, g3⟩ := cells2 hT5; obtain ⟨e0, e1, f0, f1⟩ := cells2 hB5; have s4 : B < w5.heap.size := lt_of_heap hB5; have n3 : w5.heap.size ≠ B := World.new_ne w5 ⟨B, 0, none⟩ e0; have c1n := (World.cell?_of_block (a := ⟨b, off + k * 2 + 1, none⟩) (hu5.block b (by simp; omega) (by simp))).trans ((World.cell?_of_block (a := ⟨b, off + k * 2 + 1, none⟩) (Below.heap_alloc _ _ _ (by simp; omega))).trans c1'); have n4 : w5.heap.size ≠ b := World.new_ne w5 ⟨b, off + k * 2 + 1, none⟩ c1n; have s3 : w4.heap.size ≤ w5.heap.size := (by have := hu5.size; simp at this; omega); have hu45 : Upd [w.heap.size] wr w5 := hu4.trans ((((Upd.refl [] w4).alloc _).drew).trans' hu5) (by simp))))
            all_goals go_wp2_with (fail)
            all_goals go_meet
            all_goals
              case rel =>
                refine ⟨_, _, _, rfl, rfl, ?_, ?_, hlim, hbd, ?_⟩
                · (repeat' (first | (with_reducible exact hA5) | (with_reducible refine heap_setCell_ne ?_ (by omega) _ _) | (with_reducible refine heap_alloc_old ?_ _) | (with_reducible refine heap_drew ?_) | (with_reducible refine heap_drewN ?_ _)))
                · (repeat' (first | (with_reducible exact hB5) | (with_reducible refine heap_setCell_ne ?_ (by omega) _ _) | (with_reducible apply hset2_0) | (with_reducible apply hset2_1) | (with_reducible refine heap_alloc_old ?_ _) | (with_reducible refine heap_drew ?_) | (with_reducible refine heap_drewN ?_ _)))
                · refine hu.trans (S' := [w.heap.size, B, w4.heap.size]) ?_ (by simp; omega)
                  have hz : Upd [w.heap.size, B, w4.heap.size] wr w5 := hu45.mono (by simp)
                  (repeat' (first | (with_reducible exact hz) | (with_reducible exact Upd.refl _ _) | (with_reducible apply Upd.drew) | (with_reducible apply Upd.drewN) | (with_reducible apply Upd.alloc) | (with_reducible refine Upd.setCell ?_ (by simp) _) | (with_reducible refine Upd.setCell ?_ (.inr (by simp; omega)) _)))
          · have hq : (kd == 1) = false := by simp [hk1]
            have hq2 : (kd == 2) = false := by simp [hk2]
            have HQ := Lib.hid hk1
            have HQ2 := Lib.hid hk2
            clear hk1 hk2
            go_wp2_with (fail)
            refine Calls.mono (aset2_c hA n) ?_
            rintro e w4 ⟨rfl, hu4, hA4⟩
            have hB4 := hu4.keep hB1 (by simp; omega)
            have c1' : w4.cell? ⟨b, off + k * 2 + 1, none⟩ = some (i64 n) := (World.cell?_of_block (a := ⟨b, off + k * 2 + 1, none⟩) (hu4.block b (by have := hu.size; omega) (by simp; omega))).trans c1
            clear c0 c1 hA hB1
            go_wp2_with (fail)
            refine Calls.mono (rlimit_c n _) ?_
            rintro e w5 ⟨rfl, hu5⟩
            have hA5 := hu5.keep0 hA4
            have hB5 := hu5.keep0 hB4
            obtain ⟨e0, e1, f0, f1⟩ := cells2 hB5
            have hbd : 0 ≤ max 0 (min n 1048576) ∧ max 0 (min n 1048576) ≤ 1048576 := by omega
            generalize max 0 (min n 1048576) = lim2 at *
            go_wp2_with (fail)
            go_meet
            case rel =>
              refine ⟨_, _, _, rfl, rfl, ?_, ?_, hbd, ht, ?_⟩
              · (repeat' (first | (with_reducible exact hA5) | (with_reducible refine heap_setCell_ne ?_ (by omega) _ _) | (with_reducible refine heap_alloc_old ?_ _) | (with_reducible refine heap_drew ?_) | (with_reducible refine heap_drewN ?_ _)))
              · (repeat' (first | (with_reducible exact hB5) | (with_reducible refine heap_setCell_ne ?_ (by omega) _ _) | (with_reducible apply hset2_0) | (with_reducible apply hset2_1) | (with_reducible refine heap_alloc_old ?_ _) | (with_reducible refine heap_drew ?_) | (with_reducible refine heap_drewN ?_ _)))
              · refine hu.trans (S' := [w.heap.size, B]) ?_ (by simp; omega)
                have hz : Upd [w.heap.size, B] wr w5 := (hu4.trans (hu5) (by simp)).mono (by simp)
                (repeat' (first | (with_reducible exact hz) | (with_reducible exact Upd.refl _ _) | (with_reducible apply Upd.drew) | (with_reducible apply Upd.drewN) | (with_reducible apply Upd.alloc) | (with_reducible refine Upd.setCell ?_ (by simp) _) | (with_reducible refine Upd.setCell ?_ (.inr (by simp; omega)) _)))
      case rest =>
        obtain ⟨err, lim', t', rfl, rfl, hA4, hB4, hlim', ht', hu4⟩ := hcut
        go_wp2_with (fail)
        go_region_held3 (fun w' => w'.cell? ⟨B, 0, none⟩ = some (i64 lim') ∧ w'.cell? ⟨B, 1, none⟩ = some (i64 t'))
          ((first | exact ⟨cellOf hB4 0, cellOf hB4 1⟩ | exact ⟨cellOf hB5 0, cellOf hB5 1⟩ | exact ⟨cellOf hB6 0, cellOf hB6 1⟩ | exact ⟨cellOf hB7 0, cellOf hB7 1⟩))
          ((first
            | (go_at_call 22; refine Calls.mono (taken_c ⟨hA4, rfl, rfl⟩) ?_; rintro e w5 ⟨rfl, hu5⟩; have hA5 := hu5.keep0 hA4; have hB5 := hu5.keep0 hB4)
            | (go_at_call 23; refine Calls.mono (room_c ⟨hA5, rfl, rfl⟩ hlim' ht') ?_; rintro e w6 ⟨rfl, hu6⟩; have hA6 := hu6.keep0 hA5; have hB6 := hu6.keep0 hB5)
            | (go_at_call 24; refine Calls.mono (rroom_c lim' t' _ hlim' ht') ?_; rintro e w7 ⟨rfl, hu7⟩; have hA7 := hu7.keep0 hA6; have hB7 := hu7.keep0 hB6)))
        all_goals go_wp2_with (fail)
        all_goals go_roundw
        case rel => exact ⟨k + 1, lim', t', by go_num, by omega, hA7, hB7, hlim', ht', hu4.trans' ((Upd.refl _ _).drew.trans' (hu5.trans' (hu6.trans' hu7)))⟩
        case measure => simp [intOf]; omega
    · have e : k = l.length := by omega
      go_wp2_with (fail)
      refine (aawake_c _).mono ?_
      rintro e w5 ⟨rfl, hu5⟩
      go_wp2_with (fail)
      exact hR.out _ _ ⟨rfl, hu.trans' hu5⟩

/- ACCOUNT LAW: no steps -/
set_option maxRecDepth 100000 in
theorem asteps0_c (limit : Int) (ao : Option Addr) (cap : Nat) (w : World) :
    Trues 3 #[i64 limit, .slice ao 0 cap] w := by
  unfold Trues
  refine post fun R hR => ?_
  go_enter Try.func3, Try.ntmps3
  go_wp2_with (fail)
  refine Calls.mono (anew_c _ _) ?_
  rintro e w1 ⟨rfl, hu1, hh1⟩
  go_wp2_with (fail)
  refine Calls.mono (rlimit_c _ _) ?_
  rintro e w2 ⟨rfl, hu2⟩
  go_wp2_with (fail)
  refine wp_loop_once ?_
  go_wp2_with (fail)
  refine (aawake_c _).mono ?_
  rintro e w5 ⟨rfl, hu5⟩
  go_wp2_with (fail)
  exact hR.out _ _ ⟨rfl, ((hu1.trans' hu2).alloc _).trans' hu5⟩

set_option maxRecDepth 100000 in
theorem asteps9_c (limit : Int) (ao : Option Addr) (n cap : Nat) (w : World) (hn : 2000 < n) :
    Trues 3 #[i64 limit, .slice ao n cap] w := by
  unfold Trues
  refine post fun R hR => ?_
  go_enter Try.func3, Try.ntmps3
  go_wp2_with (fail)
  refine (aawake_c _).mono ?_
  rintro e w5 ⟨rfl, hu5⟩
  go_wp2_with (fail)
  exact hR.out _ _ ⟨rfl, hu5⟩

theorem flat_astep : flat Try.prog 5 31 = some [.int .i64, .int .i64] := by kernel_rfl
theorem cells_astep : Try.prog.cellsOf 31 = 2 := by kernel_rfl

theorem accountSteps_walk {H : Type} {enc : TypeId × Value → H} {W : World} {base : Nat} {args : Array Value} {ds gs : List (DataW H)} {before : List MemPlace}
    (hval : ∀ (j : Nat) t v, Try.f3.params[j]? = some t → args[j]? = some v → Value.okWide Try.prog W .any base t v)
    (hW : DataW.Whole enc Try.prog Try.f3.params.toList [] false W args.toList ds gs before) : Trues 3 args W := by
  obtain ⟨p, q, hA, -, rfl, -, -⟩ := hW
  rw [Try.params3] at hA hval
  obtain ⟨v0, v1, d0, d1, p0, p1, rfl, rfl, rfl, h0, h1⟩ := trodAll_two hA
  obtain ⟨n, rfl, rfl, rfl, wn⟩ := open_int Try.underlying3 (hval 0 3 v0 rfl rfl) h0
  obtain ⟨ao, cap, l, rfl, hlc, hcap, hg, hl⟩ := open_list AStep.parse Try.underlying22 flat_astep cells_astep (by decide) (hval 1 22 v1 rfl rfl) h1
  by_cases hbig : 2000 < l.length
  · exact asteps9_c n ao l.length cap W hbig
  · rcases hl with rfl | ⟨b, off, rfl, hr⟩
    · exact asteps0_c n ao cap W
    · cases l with
      | nil => exact asteps0_c n _ cap W
      | cons x r =>
        exact asteps_c n b off cap (x :: r) W (by omega) hr (World.block_lt_of_cell? W _ (hr 0 x rfl 0 (by decide))) hg

set_option maxRecDepth 100000 in
theorem accountSteps_lifted (os : Os) (started : os.Started) (H : Type) (enc : TypeId × Value → H) :
    ReturnsInHanded {} Try.checked os 3 .any (Rows.accountStepsSpec.pre6 enc Try.prog Try.f3 Rows.accountStepsRow.domain false) (Rows.accountStepsSpec.post enc Try.prog Try.f3 false true false false) := by
  refine returnsInHanded_of_change (C := Try.checked) own started (by kernel_rfl) Try.func3
    (ChangeSpec.witness6 (enc := enc) (C := Try.checked) false ⟨#[], #[.int .i64 0, .slice none 0 0], []⟩ 8 (by kernel_rfl) (by kernel_rfl) (by kernel_rfl) (by kernel_rfl)) ?_
  intro W base args ds gs before hval hW hcnd _
  refine Calls.mono (accountSteps_walk hval hW) fun e W' ⟨he, hu⟩ => ?_
  exact ⟨_, he, law_post rfl rfl (by kernel_rfl) hW (fun ds h => by match ds, h with | [_, _], _ => rfl) hu⟩

theorem accountSteps_over : Rows.accountStepsRow.holds Try.pinned (OpenSpec.ofChange Rows.accountStepsSpec) :=
  OpenClaim.holds_of_wide 3 Try.f3 rfl rfl rfl rfl rfl rfl rfl ⟨rfl, rfl, rfl, rfl, rfl⟩ rfl rfl rfl rfl rfl (by kernel_rfl) Try.func3 (by kernel_rfl)
    (of_decide_eq_true (by kernel_rfl)) (by unfold Func.isWrapper; first | (rw [if_pos (by decide +kernel)]; kernel_rfl) | (rw [if_neg (by decide +kernel)]; exact ⟨rfl, rfl⟩))
    (fun os started H enc _ => accountSteps_lifted os started H enc)

theorem accountSteps_proved : Rows.AccountStepsSaid := accountSteps_over
end Go.Proofs.Ytnhanldefebjbaa

/-
  The contracts of the document's gate (concourseref39). Conditions: its numbers are within their bounds.
-/
import Derived.Test.YtnhanldefebjbaaGateLim
import Derived.Test.YtnhanldefebjbaaBkRef
import Derived.Test.YtnhanldefebjbaaAccRef
namespace Go.Proofs.Ytnhanldefebjbaa
open Go Go.RowKit

abbrev gv (g : Gt) : Value := .agg g.cells
abbrev gz : Obj := .cells #[i64 0, i64 0, i64 0, i64 0, i64 0, i64 0, i64 0, i64 0, i64 0, .bool false] 79

theorem rlim_c (n : Int) (w : World) : Calls Try.prog 59 #[i64 n] w fun e w' => e = .returned (.agg #[i64 (lim n), i64 0]) ∧ Upd [] w w' := by
  have hl := fun w => rlimit_c n w
  have HL := Lib.hid hl
  clear hl
  have he : max 0 (min n 1048576) = lim n := rfl
  rw [he] at HL
  refine post fun R hR => ?_
  go_enter Try.func59, Try.ntmps59
  go_wp2_with (fail)
  refine Calls.mono (HL.out _) ?_
  rintro e w2 ⟨rfl, hu⟩
  have hB := hu.keep0 (heap_alloc_new w (.cells #[i64 0, i64 0] 28))
  obtain ⟨c0, c1, f0, f1⟩ := cells2 hB
  go_wp2_with (fail)
  have hh := heap_setCell (heap_setCell hB 0 (i64 (lim n))) 1 (i64 0)
  obtain ⟨d0, d1, -⟩ := cells2 hh
  refine bodyPost_ret (v := .agg #[i64 (lim n), i64 0]) (by simp [results, Try.results59, go_sem, *]) rfl ?_
  refine hR.out _ _ ?_
  exact ⟨rfl, (((Upd.refl [] w).alloc _).trans' hu).trans (((Upd.refl [w.heap.size] _).setCell (by simp) _).setCell (by simp) _) (by simp)⟩

theorem rcost_c (n : Int) (w : World) : Calls Try.prog 61 #[i64 n] w fun e w' => e = .returned (i64 (costN n)) ∧ w = w' := by
  refine post fun R hR => ?_
  go_enter Try.func61, Try.ntmps61
  go_wp2
  all_goals exact hR.out _ _ ⟨ret_i (by unfold costN; omega), rfl⟩

theorem rasks_c (k : Int) (w : World) : Calls Try.prog 60 #[i64 k] w fun e w' => e = .returned (.bool (asksB k)) ∧ w = w' := by
  by_cases h : k = 2 ∨ k = 3 ∨ k = 4 ∨ k = 6 ∨ k = 7
  · have e1 : asksB k = true := by unfold asksB; simpa using h
    rw [e1]
    rcases h with rfl | rfl | rfl | rfl | rfl
    all_goals
      refine post fun R hR => ?_
      go_enter Try.func60, Try.ntmps60
      go_wp2
      exact hR.out _ _ ⟨rfl, rfl⟩
  · have e1 : asksB k = false := by unfold asksB; simpa using h
    rw [e1]
    have h2 : (k == 2) = false := by simp; omega
    have h3 : (k == 3) = false := by simp; omega
    have h4 : (k == 4) = false := by simp; omega
    have h6 : (k == 6) = false := by simp; omega
    have h7 : (k == 7) = false := by simp; omega
    clear h e1
    refine post fun R hR => ?_
    go_enter Try.func60, Try.ntmps60
    go_wp2
    exact hR.out _ _ ⟨rfl, rfl⟩

set_option maxRecDepth 100000 in
set_option maxHeartbeats 1000000 in
theorem rgdeliver_c (g : Gt) (ok : g.ok) (w : World) : Calls Try.prog 47 #[gv g] w fun e w' => e = .returned (.tuple #[gv g.deliv, i64 g.delivE]) ∧ Upd [] w w' := by
  obtain ⟨r, u, t, ml, mt, sl, st, ol, ot, rs⟩ := g
  obtain ⟨o1, o2⟩ : 0 ≤ ot ∧ ot ≤ 1048576 := ok.ot0
  clear ok
  unfold Gt.deliv Gt.delivE
  by_cases h1 : ot < 1
  · rw [if_pos h1, if_pos h1]
    refine post fun R hR => ?_
    go_enter Try.func47, Try.ntmps47
    go_wp2_with (fail)
    refine bodyPost_ret (v := .tuple #[.agg #[i64 r, i64 u, i64 t, i64 ml, i64 mt, i64 sl, i64 st, i64 ol, i64 ot, .bool rs], i64 1]) (by simp [results, Try.results47, go_sem, *]) rfl ?_
    refine hR.out _ _ ?_
    exact ⟨rfl, by (repeat' (first | (with_reducible exact Upd.refl _ _) | (with_reducible assumption) | (with_reducible apply Upd.drew) | (with_reducible apply Upd.drewN) | (with_reducible apply Upd.alloc) | (with_reducible refine Upd.setCell ?_ (by simp) _) | (with_reducible refine Upd.setCell ?_ (by simp; omega) _)))⟩
  · rw [if_neg h1, if_neg h1]
    refine post fun R hR => ?_
    go_enter Try.func47, Try.ntmps47
    go_wp2_with (fail)
    refine bodyPost_ret (v := .tuple #[.agg #[i64 r, i64 u, i64 t, i64 ml, i64 mt, i64 sl, i64 st, i64 ol, i64 (ot - 1), .bool rs], i64 0]) (by simp [results, Try.results47, go_sem, *]) rfl ?_
    refine hR.out _ _ ?_
    exact ⟨rfl, by (repeat' (first | (with_reducible exact Upd.refl _ _) | (with_reducible assumption) | (with_reducible apply Upd.drew) | (with_reducible apply Upd.drewN) | (with_reducible apply Upd.alloc) | (with_reducible refine Upd.setCell ?_ (by simp) _) | (with_reducible refine Upd.setCell ?_ (by simp; omega) _)))⟩

set_option maxRecDepth 100000 in
set_option maxHeartbeats 1000000 in
theorem rgserve_c (g : Gt) (ok : g.ok) (n : Int) (w : World) : Calls Try.prog 46 #[gv g, i64 n] w fun e w' => e = .returned (.tuple #[gv (g.serv n), i64 (g.servE n)]) ∧ Upd [] w w' := by
  obtain ⟨r, u, t, ml, mt, sl, st, ol, ot, rs⟩ := g
  obtain ⟨o1, o2⟩ : 0 ≤ mt ∧ mt ≤ 1048576 := ok.mt0
  obtain ⟨o3, o4⟩ : 0 ≤ st ∧ st ≤ 1048576 := ok.st0
  obtain ⟨b1, b2⟩ := costN_bd n
  have hc := fun w => rcost_c n w
  clear ok
  unfold Gt.serv Gt.servE
  simp only
  generalize costN n = C at *
  have HC := Lib.hid hc
  clear hc
  by_cases h1 : mt < C
  · rw [if_pos (.inl h1), if_pos (.inl h1)]
    refine post fun R hR => ?_
    go_enter Try.func46, Try.ntmps46
    go_wp2_with (fail)
    refine Calls.mono (HC.out _) ?_
    rintro e w2 ⟨rfl, rfl⟩
    go_wp2_with (fail)
    refine bodyPost_ret (v := .tuple #[.agg #[i64 r, i64 u, i64 t, i64 ml, i64 mt, i64 sl, i64 st, i64 ol, i64 ot, .bool rs], i64 1]) (by simp [results, Try.results46, go_sem, *]) rfl ?_
    refine hR.out _ _ ?_
    exact ⟨rfl, by (repeat' (first | (with_reducible exact Upd.refl _ _) | (with_reducible assumption) | (with_reducible apply Upd.drew) | (with_reducible apply Upd.drewN) | (with_reducible apply Upd.alloc) | (with_reducible refine Upd.setCell ?_ (by simp) _) | (with_reducible refine Upd.setCell ?_ (by simp; omega) _)))⟩
  · by_cases h2 : st < 1
    · rw [if_pos (.inr h2), if_pos (.inr h2)]
      refine post fun R hR => ?_
      go_enter Try.func46, Try.ntmps46
      go_wp2_with (fail)
      refine Calls.mono (HC.out _) ?_
      rintro e w2 ⟨rfl, rfl⟩
      go_wp2_with (fail)
      refine bodyPost_ret (v := .tuple #[.agg #[i64 r, i64 u, i64 t, i64 ml, i64 mt, i64 sl, i64 st, i64 ol, i64 ot, .bool rs], i64 1]) (by simp [results, Try.results46, go_sem, *]) rfl ?_
      refine hR.out _ _ ?_
      exact ⟨rfl, by (repeat' (first | (with_reducible exact Upd.refl _ _) | (with_reducible assumption) | (with_reducible apply Upd.drew) | (with_reducible apply Upd.drewN) | (with_reducible apply Upd.alloc) | (with_reducible refine Upd.setCell ?_ (by simp) _) | (with_reducible refine Upd.setCell ?_ (by simp; omega) _)))⟩
    · rw [if_neg (by omega), if_neg (by omega)]
      refine post fun R hR => ?_
      go_enter Try.func46, Try.ntmps46
      go_wp2_with (fail)
      refine Calls.mono (HC.out _) ?_
      rintro e w2 ⟨rfl, rfl⟩
      go_wp2_with (fail)
      refine bodyPost_ret (v := .tuple #[.agg #[i64 r, i64 u, i64 t, i64 ml, i64 (mt - C), i64 sl, i64 (st - 1), i64 ol, i64 ot, .bool rs], i64 0]) (by simp [results, Try.results46, go_sem, *]) rfl ?_
      refine hR.out _ _ ?_
      exact ⟨rfl, by (repeat' (first | (with_reducible exact Upd.refl _ _) | (with_reducible assumption) | (with_reducible apply Upd.drew) | (with_reducible apply Upd.drewN) | (with_reducible apply Upd.alloc) | (with_reducible refine Upd.setCell ?_ (by simp) _) | (with_reducible refine Upd.setCell ?_ (by simp; omega) _)))⟩

set_option maxRecDepth 100000 in
set_option maxHeartbeats 4000000 in
theorem rgnew_c (c : Cf) (w : World) : Calls Try.prog 44 #[.agg c.cells] w fun e w' => e = .returned (gv (Gt.new c)) ∧ Upd [] w w' := by
  have hC := heap_alloc_old (heap_alloc_new w (.cells c.cells 60)) gz
  have hB := heap_new2 w (.cells c.cells 60) gz
  have hu0 := ((Upd.refl [] w).alloc (.cells c.cells 60)).alloc gz
  refine post fun R hR => ?_
  go_enter Try.func44, Try.ntmps44
  go_wp2_with fail
  generalize (w.alloc (.cells c.cells 60)).alloc gz = w1 at *
  obtain ⟨C, hCC⟩ : ∃ C, C = w.heap.size := ⟨_, rfl⟩
  rw [← hCC] at hC hB ⊢
  have hCw : w.heap.size ≤ C := by omega
  clear hCC
  obtain ⟨c0, c1, c2, c3, c4, c5, -⟩ := cells9 hC
  have hcf : ∀ w', Upd [C + 1] w1 w' → w'.cell? ⟨C, 1, none⟩ = some (i64 c.rate) ∧ w'.cell? ⟨C, 2, none⟩ = some (i64 c.burst) ∧ w'.cell? ⟨C, 3, none⟩ = some (i64 c.mem) ∧ w'.cell? ⟨C, 4, none⟩ = some (i64 c.slots) ∧ w'.cell? ⟨C, 5, none⟩ = some (i64 c.outs) := fun w' hu => by
    obtain ⟨k0, k1, k2, k3, k4, k5, -⟩ := cells9 (hu.keep hC (by simp))
    exact ⟨k1, k2, k3, k4, k5⟩
  have HC := Lib.hid hcf
  have HB := Lib.hid hB
  have HU := Lib.hid hu0
  clear hcf hC hB hu0
  refine wp_region_held_drew (S := fun w' => Upd [C + 1] w1 w') (by kernel_rfl) ((Upd.refl [C + 1] w1).drew) (fun hHeld => ?_)
  refine wpAnyH_take (i := 0) (v := ?_) rfl (by kernel_rfl) (by kernel_rfl) (by kernel_rfl) (fun _ _ _ h => h) (Or.inl ⟨by rfl, ?_⟩) (by assumption) ?_
  rotate_left 1
  · (intro w hSw; clear hSw; go_simp; try with_reducible rfl)
  (try simp only [List.getElem_toArray, List.getElem_cons_zero, List.getElem_cons_succ, Act.put, List.setIfInBounds_toArray, List.set_cons_zero, List.set_cons_succ])
  refine wpAnyH_take (i := 1) (v := ?_) rfl (by kernel_rfl) (by kernel_rfl) (by kernel_rfl) (fun _ _ _ h => h) (Or.inl ⟨by rfl, ?_⟩) (by assumption) ?_
  rotate_left 1
  · (intro w hSw; obtain ⟨c1, c2, c3, c4, c5⟩ := HC.out _ hSw; go_simp; try with_reducible rfl)
  (try simp only [List.getElem_toArray, List.getElem_cons_zero, List.getElem_cons_succ, Act.put, List.setIfInBounds_toArray, List.set_cons_zero, List.set_cons_succ])
  refine wpAnyH_take (i := 2) (v := ?_) rfl (by kernel_rfl) (by kernel_rfl) (by kernel_rfl) (fun _ _ _ h => h) (Or.inl ⟨by rfl, ?_⟩) (by assumption) ?_
  rotate_left 1
  · (intro w hSw; clear hSw; go_simp; try with_reducible rfl)
  (try simp only [List.getElem_toArray, List.getElem_cons_zero, List.getElem_cons_succ, Act.put, List.setIfInBounds_toArray, List.set_cons_zero, List.set_cons_succ])
  refine wpAnyH_take (i := 3) (v := ?_) rfl (by kernel_rfl) (by kernel_rfl) (by kernel_rfl) (fun _ _ _ h => h) (Or.inl ⟨by rfl, ?_⟩) (by assumption) ?_
  rotate_left 1
  · (intro w hSw; obtain ⟨c1, c2, c3, c4, c5⟩ := HC.out _ hSw; go_simp; try with_reducible rfl)
  (try simp only [List.getElem_toArray, List.getElem_cons_zero, List.getElem_cons_succ, Act.put, List.setIfInBounds_toArray, List.set_cons_zero, List.set_cons_succ])
  refine wpAnyH_take (i := 5) (v := ?_) rfl (by kernel_rfl) (by kernel_rfl) (by kernel_rfl) (fun _ _ _ h => h) (Or.inl ⟨by rfl, ?_⟩) (by assumption) ?_
  rotate_left 1
  · (intro w hSw; clear hSw; go_simp; try with_reducible rfl)
  (try simp only [List.getElem_toArray, List.getElem_cons_zero, List.getElem_cons_succ, Act.put, List.setIfInBounds_toArray, List.set_cons_zero, List.set_cons_succ])
  refine wpAnyH_take (i := 6) (v := ?_) rfl (by kernel_rfl) (by kernel_rfl) (by kernel_rfl) (fun _ _ _ h => h) (Or.inl ⟨by rfl, ?_⟩) (by assumption) ?_
  rotate_left 1
  · (intro w hSw; obtain ⟨c1, c2, c3, c4, c5⟩ := HC.out _ hSw; go_simp; try with_reducible rfl)
  (try simp only [List.getElem_toArray, List.getElem_cons_zero, List.getElem_cons_succ, Act.put, List.setIfInBounds_toArray, List.set_cons_zero, List.set_cons_succ])
  refine wpAnyH_take (i := 8) (v := ?_) rfl (by kernel_rfl) (by kernel_rfl) (by kernel_rfl) (fun _ _ _ h => h) (Or.inl ⟨by rfl, ?_⟩) (by assumption) ?_
  rotate_left 1
  · (intro w hSw; clear hSw; go_simp; try with_reducible rfl)
  (try simp only [List.getElem_toArray, List.getElem_cons_zero, List.getElem_cons_succ, Act.put, List.setIfInBounds_toArray, List.set_cons_zero, List.set_cons_succ])
  refine wpAnyH_take (i := 9) (v := ?_) rfl (by kernel_rfl) (by kernel_rfl) (by kernel_rfl) (fun _ _ _ h => h) (Or.inl ⟨by rfl, ?_⟩) (by assumption) ?_
  rotate_left 1
  · (intro w hSw; obtain ⟨c1, c2, c3, c4, c5⟩ := HC.out _ hSw; go_simp; try with_reducible rfl)
  (try simp only [List.getElem_toArray, List.getElem_cons_zero, List.getElem_cons_succ, Act.put, List.setIfInBounds_toArray, List.set_cons_zero, List.set_cons_succ])
  refine wpAnyH_take (i := 11) (v := ?_) rfl (by kernel_rfl) (by kernel_rfl) (by kernel_rfl) (fun _ _ _ h => h) (Or.inl ⟨by rfl, ?_⟩) (by assumption) ?_
  rotate_left 1
  · (intro w hSw; clear hSw; go_simp; try with_reducible rfl)
  (try simp only [List.getElem_toArray, List.getElem_cons_zero, List.getElem_cons_succ, Act.put, List.setIfInBounds_toArray, List.set_cons_zero, List.set_cons_succ])
  refine wpAnyH_take (i := 12) (v := ?_) rfl (by kernel_rfl) (by kernel_rfl) (by kernel_rfl) (fun _ _ _ h => h) (Or.inl ⟨by rfl, ?_⟩) (by assumption) ?_
  rotate_left 1
  · (intro w hSw; obtain ⟨c1, c2, c3, c4, c5⟩ := HC.out _ hSw; go_simp; try with_reducible rfl)
  (try simp only [List.getElem_toArray, List.getElem_cons_zero, List.getElem_cons_succ, Act.put, List.setIfInBounds_toArray, List.set_cons_zero, List.set_cons_succ])
  refine wpAnyH_ready (rs := [4]) (by kernel_rfl) (by simp) ?_
  refine AllReadyH.cons rfl (fun K hK => ?_) AllReadyH.nil
  go_simp
  refine Calls.mono (rbnew_c _ _ _) ?_
  rintro e w2 ⟨rfl, huw2⟩
  go_wp2_with fail
  have hch2 : Upd [] w1 w2 := (Upd.refl [] w1).drew.trans' huw2
  refine hK.out _ _ (hHeld.trans' (huw2.mono (by simp))) (fun hHeld => ?_)
  clear hK K
  refine wpAnyH_ready (rs := [7]) (by kernel_rfl) (by simp) ?_
  refine AllReadyH.cons rfl (fun K hK => ?_) AllReadyH.nil
  go_simp
  refine Calls.mono (rlim_c _ _) ?_
  rintro e w3 ⟨rfl, huw3⟩
  go_wp2_with fail
  have hch3 := hch2.trans' huw3
  refine hK.out _ _ (hHeld.trans' (huw3.mono (by simp))) (fun hHeld => ?_)
  clear hK K
  refine wpAnyH_ready (rs := [10]) (by kernel_rfl) (by simp) ?_
  refine AllReadyH.cons rfl (fun K hK => ?_) AllReadyH.nil
  go_simp
  refine Calls.mono (rlim_c _ _) ?_
  rintro e w4 ⟨rfl, huw4⟩
  go_wp2_with fail
  have hch4 := hch3.trans' huw4
  refine hK.out _ _ (hHeld.trans' (huw4.mono (by simp))) (fun hHeld => ?_)
  clear hK K
  refine wpAnyH_ready (rs := [13]) (by kernel_rfl) (by simp) ?_
  refine AllReadyH.cons rfl (fun K hK => ?_) AllReadyH.nil
  go_simp
  refine Calls.mono (rlim_c _ _) ?_
  rintro e w5 ⟨rfl, huw5⟩
  go_wp2_with fail
  have hch5 := hch4.trans' huw5
  refine hK.out _ _ (hHeld.trans' (huw5.mono (by simp))) (fun hHeld => ?_)
  clear hK K
  refine wpAnyH_take (i := 14) (v := ?_) rfl (by kernel_rfl) (by kernel_rfl) (by kernel_rfl) (fun _ _ _ h => h) (Or.inl ⟨by rfl, ?_⟩) (by assumption) ?_
  rotate_left 1
  · (intro w hSw; clear hSw; go_simp; try with_reducible rfl)
  (try simp only [List.getElem_toArray, List.getElem_cons_zero, List.getElem_cons_succ, Act.put, List.setIfInBounds_toArray, List.set_cons_zero, List.set_cons_succ])
  have hB5 := hch5.keep0 HB.out
  obtain ⟨b0, b1, b2, b3, b4, b5, b6, b7, b8, b9, f0, f1, f2, f3, f4, f5, f6, f7, f8, f9⟩ := cells10 hB5
  refine wpAnyH_ready (rs := [15]) (by kernel_rfl) (by simp) ?_
  refine AllReadyH.cons rfl (fun K hK => ?_) AllReadyH.nil
  go_simp
  have hfin := hset10_9 (v := .bool false) (hset10_8 (v := i64 0) (hset10_7 (v := i64 (lim c.outs)) (hset10_6 (v := i64 0) (hset10_5 (v := i64 (lim c.slots)) (hset10_4 (v := i64 0) (hset10_3 (v := i64 (lim c.mem)) (hset10_2 (v := i64 (clamp c.burst 1048576)) (hset10_1 (v := i64 (clamp c.burst 1048576)) (hset10_0 (v := i64 (clamp c.rate 1048576)) hB5)))))))))
  refine hK.out _ _ (by (repeat' (first | (with_reducible exact hHeld) | (with_reducible exact Upd.refl _ _) | (with_reducible apply Upd.drew) | (with_reducible apply Upd.drewN) | (with_reducible apply Upd.alloc) | (with_reducible refine Upd.setCell ?_ (by simp) _) | (with_reducible refine Upd.setCell ?_ (.inr (by simp; omega)) _)))) (fun hHeld => ?_)
  clear hK K
  refine wpAnyH_done (by kernel_rfl) ?_ _
  have hx := HU.out.trans hHeld (by simp; omega)
  obtain ⟨k0, k1, k2, k3, k4, k5, k6, k7, k8, k9, -⟩ := cells10 hfin
  clear hHeld hfin b0 b1 b2 b3 b4 b5 b6 b7 b8 b9 f0 f1 f2 f3 f4 f5 f6 f7 f8 f9 hB5 hch2 hch3 hch4 hch5 huw2 huw3 huw4 huw5 c0 c1 c2 c3 c4 c5
  have HX := Lib.hid hx
  clear hx
  go_wp2_with fail
  refine bodyPost_ret (v := .agg #[i64 (clamp c.rate 1048576), i64 (clamp c.burst 1048576), i64 (clamp c.burst 1048576), i64 (lim c.mem), i64 0, i64 (lim c.slots), i64 0, i64 (lim c.outs), i64 0, .bool false]) (by simp [results, Try.results44, go_sem, *]) rfl ?_
  refine hR.out _ _ ?_
  exact ⟨rfl, HX.out⟩

set_option maxRecDepth 100000 in
set_option maxHeartbeats 4000000 in
theorem gsame_c {w : World} {b : Nat} {g : Gt} (h : GtAt w b g) : Calls Try.prog 52 #[.pointer (some ⟨b, 0, none⟩), gv g] w fun e w' => e = .returned (.bool true) ∧ Upd [] w w' := by
  have hB := heap_alloc_new w (.cells g.cells 79)
  have hG := heap_alloc_old h (.cells g.cells 79)
  have hu0 := (Upd.refl [] w).alloc (.cells g.cells 79)
  clear h
  refine post fun R hR => ?_
  go_enter Try.func52, Try.ntmps52
  go_wp2_with fail
  generalize w.alloc (.cells g.cells 79) = w1 at *
  obtain ⟨C, hCC⟩ : ∃ C, C = w.heap.size := ⟨_, rfl⟩
  rw [← hCC] at hB ⊢
  clear hCC
  have hcf : ∀ w', Upd [] w1 w' → w'.cell? ⟨C, 2, none⟩ = some (i64 g.t) ∧ w'.cell? ⟨C, 4, none⟩ = some (i64 g.mt) ∧ w'.cell? ⟨C, 6, none⟩ = some (i64 g.st) ∧ w'.cell? ⟨C, 8, none⟩ = some (i64 g.ot) := fun w' hu => by
    obtain ⟨k0, k1, k2, k3, k4, k5, k6, k7, k8, -⟩ := cells10 (hu.keep0 hB)
    exact ⟨k2, k4, k6, k8⟩
  have HC := Lib.hid hcf
  have HG := Lib.hid hG
  have HU := Lib.hid hu0
  clear hcf hB hG hu0
  refine wp_region_held_drew (S := fun w' => Upd [] w1 w') (by kernel_rfl) ((Upd.refl [] w1).drew) (fun hHeld => ?_)
  refine wpAnyH_take (i := 0) (v := ?_) rfl (by kernel_rfl) (by kernel_rfl) (by kernel_rfl) (fun _ _ _ h => h) (Or.inl ⟨by rfl, ?_⟩) (by assumption) ?_
  rotate_left 1
  · (intro w hSw; clear hSw; go_simp; try with_reducible rfl)
  (try simp only [List.getElem_toArray, List.getElem_cons_zero, List.getElem_cons_succ, Act.put, List.setIfInBounds_toArray, List.set_cons_zero, List.set_cons_succ])
  refine wpAnyH_take (i := 2) (v := ?_) rfl (by kernel_rfl) (by kernel_rfl) (by kernel_rfl) (fun _ _ _ h => h) (Or.inl ⟨by rfl, ?_⟩) (by assumption) ?_
  rotate_left 1
  · (intro w hSw; clear hSw; go_simp; try with_reducible rfl)
  (try simp only [List.getElem_toArray, List.getElem_cons_zero, List.getElem_cons_succ, Act.put, List.setIfInBounds_toArray, List.set_cons_zero, List.set_cons_succ])
  refine wpAnyH_take (i := 3) (v := ?_) rfl (by kernel_rfl) (by kernel_rfl) (by kernel_rfl) (fun _ _ _ h => h) (Or.inl ⟨by rfl, ?_⟩) (by assumption) ?_
  rotate_left 1
  · (intro w hSw; clear hSw; go_simp; try with_reducible rfl)
  (try simp only [List.getElem_toArray, List.getElem_cons_zero, List.getElem_cons_succ, Act.put, List.setIfInBounds_toArray, List.set_cons_zero, List.set_cons_succ])
  refine wpAnyH_take (i := 4) (v := ?_) rfl (by kernel_rfl) (by kernel_rfl) (by kernel_rfl) (fun _ _ _ h => h) (Or.inl ⟨by rfl, ?_⟩) (by assumption) ?_
  rotate_left 1
  · (intro w hSw; obtain ⟨c1, c2, c3, c4⟩ := HC.out _ hSw; go_simp; try with_reducible rfl)
  (try simp only [List.getElem_toArray, List.getElem_cons_zero, List.getElem_cons_succ, Act.put, List.setIfInBounds_toArray, List.set_cons_zero, List.set_cons_succ])
  refine wpAnyH_take (i := 5) (v := ?_) rfl (by kernel_rfl) (by kernel_rfl) (by kernel_rfl) (fun _ _ _ h => h) (Or.inl ⟨by rfl, ?_⟩) (by assumption) ?_
  rotate_left 1
  · (intro w hSw; clear hSw; go_simp; try with_reducible rfl)
  (try simp only [List.getElem_toArray, List.getElem_cons_zero, List.getElem_cons_succ, Act.put, List.setIfInBounds_toArray, List.set_cons_zero, List.set_cons_succ])
  refine wpAnyH_take (i := 6) (v := ?_) rfl (by kernel_rfl) (by kernel_rfl) (by kernel_rfl) (fun _ _ _ h => h) (Or.inl ⟨by rfl, ?_⟩) (by assumption) ?_
  rotate_left 1
  · (intro w hSw; clear hSw; go_simp; try with_reducible rfl)
  (try simp only [List.getElem_toArray, List.getElem_cons_zero, List.getElem_cons_succ, Act.put, List.setIfInBounds_toArray, List.set_cons_zero, List.set_cons_succ])
  refine wpAnyH_take (i := 7) (v := ?_) rfl (by kernel_rfl) (by kernel_rfl) (by kernel_rfl) (fun _ _ _ h => h) (Or.inl ⟨by rfl, ?_⟩) (by assumption) ?_
  rotate_left 1
  · (intro w hSw; obtain ⟨c1, c2, c3, c4⟩ := HC.out _ hSw; go_simp; try with_reducible rfl)
  (try simp only [List.getElem_toArray, List.getElem_cons_zero, List.getElem_cons_succ, Act.put, List.setIfInBounds_toArray, List.set_cons_zero, List.set_cons_succ])
  refine wpAnyH_take (i := 8) (v := ?_) rfl (by kernel_rfl) (by kernel_rfl) (by kernel_rfl) (fun _ _ _ h => h) (Or.inl ⟨by rfl, ?_⟩) (by assumption) ?_
  rotate_left 1
  · (intro w hSw; clear hSw; go_simp; try with_reducible rfl)
  (try simp only [List.getElem_toArray, List.getElem_cons_zero, List.getElem_cons_succ, Act.put, List.setIfInBounds_toArray, List.set_cons_zero, List.set_cons_succ])
  refine wpAnyH_take (i := 9) (v := ?_) rfl (by kernel_rfl) (by kernel_rfl) (by kernel_rfl) (fun _ _ _ h => h) (Or.inl ⟨by rfl, ?_⟩) (by assumption) ?_
  rotate_left 1
  · (intro w hSw; clear hSw; go_simp; try with_reducible rfl)
  (try simp only [List.getElem_toArray, List.getElem_cons_zero, List.getElem_cons_succ, Act.put, List.setIfInBounds_toArray, List.set_cons_zero, List.set_cons_succ])
  refine wpAnyH_take (i := 10) (v := ?_) rfl (by kernel_rfl) (by kernel_rfl) (by kernel_rfl) (fun _ _ _ h => h) (Or.inl ⟨by rfl, ?_⟩) (by assumption) ?_
  rotate_left 1
  · (intro w hSw; obtain ⟨c1, c2, c3, c4⟩ := HC.out _ hSw; go_simp; try with_reducible rfl)
  (try simp only [List.getElem_toArray, List.getElem_cons_zero, List.getElem_cons_succ, Act.put, List.setIfInBounds_toArray, List.set_cons_zero, List.set_cons_succ])
  refine wpAnyH_take (i := 11) (v := ?_) rfl (by kernel_rfl) (by kernel_rfl) (by kernel_rfl) (fun _ _ _ h => h) (Or.inl ⟨by rfl, ?_⟩) (by assumption) ?_
  rotate_left 1
  · (intro w hSw; clear hSw; go_simp; try with_reducible rfl)
  (try simp only [List.getElem_toArray, List.getElem_cons_zero, List.getElem_cons_succ, Act.put, List.setIfInBounds_toArray, List.set_cons_zero, List.set_cons_succ])
  refine wpAnyH_take (i := 12) (v := ?_) rfl (by kernel_rfl) (by kernel_rfl) (by kernel_rfl) (fun _ _ _ h => h) (Or.inl ⟨by rfl, ?_⟩) (by assumption) ?_
  rotate_left 1
  · (intro w hSw; clear hSw; go_simp; try with_reducible rfl)
  (try simp only [List.getElem_toArray, List.getElem_cons_zero, List.getElem_cons_succ, Act.put, List.setIfInBounds_toArray, List.set_cons_zero, List.set_cons_succ])
  refine wpAnyH_take (i := 13) (v := ?_) rfl (by kernel_rfl) (by kernel_rfl) (by kernel_rfl) (fun _ _ _ h => h) (Or.inl ⟨by rfl, ?_⟩) (by assumption) ?_
  rotate_left 1
  · (intro w hSw; obtain ⟨c1, c2, c3, c4⟩ := HC.out _ hSw; go_simp; try with_reducible rfl)
  (try simp only [List.getElem_toArray, List.getElem_cons_zero, List.getElem_cons_succ, Act.put, List.setIfInBounds_toArray, List.set_cons_zero, List.set_cons_succ])
  refine wpAnyH_take (i := 14) (v := ?_) rfl (by kernel_rfl) (by kernel_rfl) (by kernel_rfl) (fun _ _ _ h => h) (Or.inl ⟨by rfl, ?_⟩) (by assumption) ?_
  rotate_left 1
  · (intro w hSw; clear hSw; go_simp; try with_reducible rfl)
  (try simp only [List.getElem_toArray, List.getElem_cons_zero, List.getElem_cons_succ, Act.put, List.setIfInBounds_toArray, List.set_cons_zero, List.set_cons_succ])
  refine wpAnyH_ready (rs := [1]) (by kernel_rfl) (by simp) ?_
  refine AllReadyH.cons rfl (fun K hK => ?_) AllReadyH.nil
  go_simp
  refine Calls.mono (gload2_c (heap_drew HG.out)) ?_
  rintro e w2 ⟨rfl, huw2⟩
  go_wp2_with fail
  refine hK.out _ _ (hHeld.trans' huw2) (fun hHeld => ?_)
  clear hK K
  refine wpAnyH_take (i := 15) (v := ?_) rfl (by kernel_rfl) (by kernel_rfl) (by kernel_rfl) (fun _ _ _ h => h) (Or.inl ⟨by rfl, ?_⟩) (by assumption) ?_
  rotate_left 1
  · (intro w hSw; clear hSw; go_simp; try with_reducible rfl)
  (try simp only [List.getElem_toArray, List.getElem_cons_zero, List.getElem_cons_succ, Act.put, List.setIfInBounds_toArray, List.set_cons_zero, List.set_cons_succ])
  refine wpAnyH_take (i := 16) (v := ?_) rfl (by kernel_rfl) (by kernel_rfl) (by kernel_rfl) (fun _ _ _ h => h) (Or.inl ⟨by rfl, ?_⟩) (by assumption) ?_
  rotate_left 1
  · (intro w hSw; clear hSw; go_simp; try with_reducible rfl)
  (try simp only [List.getElem_toArray, List.getElem_cons_zero, List.getElem_cons_succ, Act.put, List.setIfInBounds_toArray, List.set_cons_zero, List.set_cons_succ])
  refine wpAnyH_done (by kernel_rfl) ?_ _
  have HX := Lib.hid (HU.out.trans' hHeld)
  go_wp2_with fail
  exact hR.out _ _ ⟨rfl, HX.out⟩

set_option maxRecDepth 100000 in
set_option maxHeartbeats 1000000 in
theorem rgowe_c (g : Gt) (ok : g.ok) (w : World) : Calls Try.prog 48 #[gv g] w fun e w' => e = .returned (.tuple #[gv g.owed, .bool g.oweB]) ∧ Upd [] w w' := by
  have hrr := fun w => rroom_c g.ol g.ot w ok.ol0 ok.ot0
  obtain ⟨r, u, t, ml, mt, sl, st, ol, ot, rs⟩ := g
  obtain ⟨o1, o2⟩ : 0 ≤ ot ∧ ot ≤ 1048576 := ok.ot0
  obtain ⟨o3, o4⟩ : 0 ≤ ol ∧ ol ≤ 1048576 := ok.ol0
  have hA := heap_alloc_old (heap_alloc_new w (.cells #[i64 r, i64 u, i64 t, i64 ml, i64 mt, i64 sl, i64 st, i64 ol, i64 ot, .bool rs] 79)) gz
  have hB := heap_new2 w (.cells #[i64 r, i64 u, i64 t, i64 ml, i64 mt, i64 sl, i64 st, i64 ol, i64 ot, .bool rs] 79) gz
  have hu0 := ((Upd.refl [] w).alloc (.cells #[i64 r, i64 u, i64 t, i64 ml, i64 mt, i64 sl, i64 st, i64 ol, i64 ot, .bool rs] 79)).alloc gz
  simp only at hrr
  clear ok
  unfold Gt.owed Gt.oweB
  simp only
  by_cases h1 : ot < ol
  · rw [if_pos h1, decide_eq_true h1]
    rw [show max (ol - ot) 0 = ol - ot from by omega] at hrr
    have HRR := Lib.hid hrr
    have HA := Lib.hid hA
    have HB := Lib.hid hB
    have HU := Lib.hid hu0
    clear hrr hA hB hu0
    refine post fun R hR => ?_
    go_enter Try.func48, Try.ntmps48
    go_wp2_with (fail)
    refine Calls.mono (HRR.out _) ?_
    rintro e w2 ⟨rfl, hu⟩
    have hA2 := hu.keep0 HA.out
    have hB2 := hu.keep0 HB.out
    obtain ⟨a0, a1, a2, a3, a4, a5, a6, a7, a8, a9, y0, y1, y2, y3, y4, y5, y6, y7, y8, y9⟩ := cells10 hA2
    obtain ⟨b0, b1, b2, b3, b4, b5, b6, b7, b8, b9, z0, z1, z2, z3, z4, z5, z6, z7, z8, z9⟩ := cells10 hB2
    have HX := Lib.hid (HU.out.trans' hu)
    clear hu hA2 hB2
    go_wp2_with (fail)
    refine bodyPost_ret (v := .tuple #[.agg #[i64 r, i64 u, i64 t, i64 ml, i64 mt, i64 sl, i64 st, i64 ol, i64 (ot + 1), .bool rs], .bool true]) (by simp [results, Try.results48, go_sem, *]) rfl ?_
    refine hR.out _ _ ?_
    exact ⟨rfl, HX.out.trans (S' := [w.heap.size, w.heap.size + 1]) (by (repeat' (first | (with_reducible exact Upd.refl _ _) | (with_reducible assumption) | (with_reducible apply Upd.drew) | (with_reducible apply Upd.drewN) | (with_reducible apply Upd.alloc) | (with_reducible refine Upd.setCell ?_ (by simp) _) | (with_reducible refine Upd.setCell ?_ (by simp; omega) _)))) (by simp)⟩
  · rw [if_neg h1, decide_eq_false h1]
    rw [show max (ol - ot) 0 = 0 from by omega] at hrr
    have HRR := Lib.hid hrr
    have HA := Lib.hid hA
    have HB := Lib.hid hB
    have HU := Lib.hid hu0
    clear hrr hA hB hu0
    refine post fun R hR => ?_
    go_enter Try.func48, Try.ntmps48
    go_wp2_with (fail)
    refine Calls.mono (HRR.out _) ?_
    rintro e w2 ⟨rfl, hu⟩
    have hA2 := hu.keep0 HA.out
    have hB2 := hu.keep0 HB.out
    obtain ⟨a0, a1, a2, a3, a4, a5, a6, a7, a8, a9, y0, y1, y2, y3, y4, y5, y6, y7, y8, y9⟩ := cells10 hA2
    obtain ⟨b0, b1, b2, b3, b4, b5, b6, b7, b8, b9, z0, z1, z2, z3, z4, z5, z6, z7, z8, z9⟩ := cells10 hB2
    have HX := Lib.hid (HU.out.trans' hu)
    clear hu hA2 hB2
    go_wp2_with (fail)
    refine bodyPost_ret (v := .tuple #[.agg #[i64 r, i64 u, i64 t, i64 ml, i64 mt, i64 sl, i64 st, i64 ol, i64 ot, .bool rs], .bool false]) (by simp [results, Try.results48, go_sem, *]) rfl ?_
    refine hR.out _ _ ?_
    exact ⟨rfl, HX.out.trans (S' := [w.heap.size, w.heap.size + 1]) (by (repeat' (first | (with_reducible exact Upd.refl _ _) | (with_reducible assumption) | (with_reducible apply Upd.drew) | (with_reducible apply Upd.drewN) | (with_reducible apply Upd.alloc) | (with_reducible refine Upd.setCell ?_ (by simp) _) | (with_reducible refine Upd.setCell ?_ (by simp; omega) _)))) (by simp)⟩
end Go.Proofs.Ytnhanldefebjbaa

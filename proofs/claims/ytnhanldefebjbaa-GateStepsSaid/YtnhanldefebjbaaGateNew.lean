/-
  The contract of gate.New. No condition.
-/
import Derived.Test.YtnhanldefebjbaaGate
import Derived.Deep.RegionWith
import Derived.Deep.DrawnRows
namespace Go.Proofs.Ytnhanldefebjbaa
open Go Go.RowKit
attribute [local go_sem ↓] Go.wp_at_zero Go.wp_at_succ

theorem ucell {W W1 : World} (hb : Upd [] W W1) : (∀ b o, b < W.heap.size → W1.cell? ⟨b, o, none⟩ = W.cell? ⟨b, o, none⟩) ∧ W.heap.size ≤ W1.heap.size :=
  ⟨fun b o h => World.cell?_of_block (a := ⟨b, o, none⟩) (hb.block b h (by simp)), hb.size⟩

theorem wpAnyH_mono {P : Program} {md : Region.Mode} {ops : Array Oper} {Q : Exit → Act → World → Prop} {S S' : World → Prop} (hs : ∀ w, S' w → S w) :
    ∀ (fuel : Nat) (listed : Array Bool) (a : Act) (w : World), wpAnyH P md ops Q S' fuel listed a w → wpAnyH P md ops Q S fuel listed a w
  | 0, _, _, _, h => h
  | fuel + 1, _, _, _, h => ⟨h.1, fun i hi => wpOp_mono (fun a' w' h' => ⟨hs _ h'.1, wpAnyH_mono hs fuel _ a' w' h'.2⟩) (h.2 i hi)⟩

def Gt.new (c : Cf) : Gt := ⟨clamp c.rate 1048576, clamp c.burst 1048576, clamp c.burst 1048576, lim c.mem, 0, lim c.slots, 0, lim c.outs, 0, false⟩

set_option maxRecDepth 100000 in
set_option maxHeartbeats 4000000 in
theorem gnew_c (c : Cf) (w : World) : Calls Try.prog 36 #[.agg c.cells] w fun e w' => ∃ b, e = .returned (.pointer (some ⟨b, 0, none⟩)) ∧ GtAt w' b (Gt.new c) ∧ Upd [] w w' ∧ w.heap.size ≤ b := by
  have hC := heap_alloc_new w (.cells c.cells 60)
  have hu0 := (Upd.refl [] w).alloc (.cells c.cells 60)
  obtain ⟨c0, c1, c2, c3, c4, c5, -⟩ := cells9 hC
  have hz : w.heap.size < (w.alloc (.cells c.cells 60)).heap.size := by simp
  refine post fun R hR => ?_
  go_enter Try.func36, Try.ntmps36
  go_wp2_with fail
  generalize w.alloc (.cells c.cells 60) = w1 at *
  obtain ⟨C, hCC⟩ : ∃ C, C = w.heap.size := ⟨_, rfl⟩
  rw [← hCC] at c0 c1 c2 c3 c4 c5 hz ⊢
  clear hC hCC
  have hcf : ∀ w', Upd [] w1 w' → w'.cell? ⟨C, 1, none⟩ = some (i64 c.rate) ∧ w'.cell? ⟨C, 2, none⟩ = some (i64 c.burst) ∧ w'.cell? ⟨C, 3, none⟩ = some (i64 c.mem) ∧ w'.cell? ⟨C, 4, none⟩ = some (i64 c.slots) ∧ w'.cell? ⟨C, 5, none⟩ = some (i64 c.outs) := fun w' hu => by
    have h := (ucell hu).1
    rw [h C 1 hz, h C 2 hz, h C 3 hz, h C 4 hz, h C 5 hz]
    exact ⟨c1, c2, c3, c4, c5⟩
  have HC := Lib.hid hcf
  clear hcf
  refine wp_region_held_drew (S := fun w' => Upd [] w1 w') (by kernel_rfl) ((Upd.refl [] w1).drew) (fun hHeld => ?_)
  refine wpAnyH_take (i := 0) (v := ?_) rfl (by kernel_rfl) (by kernel_rfl) (by kernel_rfl) (fun _ _ _ h => h) (Or.inl ⟨by rfl, ?_⟩) (by assumption) ?_
  rotate_left 1
  · (intro w hSw; clear hSw; go_simp; try with_reducible rfl)
  (try simp only [List.getElem_toArray, List.getElem_cons_zero, List.getElem_cons_succ, Act.put, List.setIfInBounds_toArray, List.set_cons_zero, List.set_cons_succ])
  refine wpAnyH_take (i := 1) (v := ?_) rfl (by kernel_rfl) (by kernel_rfl) (by kernel_rfl) (fun _ _ _ h => h) (Or.inl ⟨by rfl, ?_⟩) (by assumption) ?_
  rotate_left 1
  · (intro w hSw; obtain ⟨c1, c2, c3, c4, c5⟩ := HC.out _ hSw; go_simp; try with_reducible rfl)
  (try simp only [List.getElem_toArray, List.getElem_cons_zero, List.getElem_cons_succ, Act.put, List.setIfInBounds_toArray, List.set_cons_zero, List.set_cons_succ])
  refine wpAnyH_take (i := 2) (v := ?_) rfl (by kernel_rfl) (by kernel_rfl) (by kernel_rfl) (fun _ _ _ h => h) (Or.inl ⟨by rfl, ?_⟩) (by assumption) ?_
  rotate_left 1
  · (intro w hSw; clear hSw; go_simp; try with_reducible rfl)
  (try simp only [List.getElem_toArray, List.getElem_cons_zero, List.getElem_cons_succ, Act.put, List.setIfInBounds_toArray, List.set_cons_zero, List.set_cons_succ])
  refine wpAnyH_take (i := 3) (v := ?_) rfl (by kernel_rfl) (by kernel_rfl) (by kernel_rfl) (fun _ _ _ h => h) (Or.inl ⟨by rfl, ?_⟩) (by assumption) ?_
  rotate_left 1
  · (intro w hSw; obtain ⟨c1, c2, c3, c4, c5⟩ := HC.out _ hSw; go_simp; try with_reducible rfl)
  (try simp only [List.getElem_toArray, List.getElem_cons_zero, List.getElem_cons_succ, Act.put, List.setIfInBounds_toArray, List.set_cons_zero, List.set_cons_succ])
  refine wpAnyH_take (i := 7) (v := ?_) rfl (by kernel_rfl) (by kernel_rfl) (by kernel_rfl) (fun _ _ _ h => h) (Or.inl ⟨by rfl, ?_⟩) (by assumption) ?_
  rotate_left 1
  · (intro w hSw; clear hSw; go_simp; try with_reducible rfl)
  (try simp only [List.getElem_toArray, List.getElem_cons_zero, List.getElem_cons_succ, Act.put, List.setIfInBounds_toArray, List.set_cons_zero, List.set_cons_succ])
  refine wpAnyH_take (i := 8) (v := ?_) rfl (by kernel_rfl) (by kernel_rfl) (by kernel_rfl) (fun _ _ _ h => h) (Or.inl ⟨by rfl, ?_⟩) (by assumption) ?_
  rotate_left 1
  · (intro w hSw; obtain ⟨c1, c2, c3, c4, c5⟩ := HC.out _ hSw; go_simp; try with_reducible rfl)
  (try simp only [List.getElem_toArray, List.getElem_cons_zero, List.getElem_cons_succ, Act.put, List.setIfInBounds_toArray, List.set_cons_zero, List.set_cons_succ])
  refine wpAnyH_take (i := 12) (v := ?_) rfl (by kernel_rfl) (by kernel_rfl) (by kernel_rfl) (fun _ _ _ h => h) (Or.inl ⟨by rfl, ?_⟩) (by assumption) ?_
  rotate_left 1
  · (intro w hSw; clear hSw; go_simp; try with_reducible rfl)
  (try simp only [List.getElem_toArray, List.getElem_cons_zero, List.getElem_cons_succ, Act.put, List.setIfInBounds_toArray, List.set_cons_zero, List.set_cons_succ])
  refine wpAnyH_take (i := 13) (v := ?_) rfl (by kernel_rfl) (by kernel_rfl) (by kernel_rfl) (fun _ _ _ h => h) (Or.inl ⟨by rfl, ?_⟩) (by assumption) ?_
  rotate_left 1
  · (intro w hSw; obtain ⟨c1, c2, c3, c4, c5⟩ := HC.out _ hSw; go_simp; try with_reducible rfl)
  (try simp only [List.getElem_toArray, List.getElem_cons_zero, List.getElem_cons_succ, Act.put, List.setIfInBounds_toArray, List.set_cons_zero, List.set_cons_succ])
  refine wpAnyH_take (i := 17) (v := ?_) rfl (by kernel_rfl) (by kernel_rfl) (by kernel_rfl) (fun _ _ _ h => h) (Or.inl ⟨by rfl, ?_⟩) (by assumption) ?_
  rotate_left 1
  · (intro w hSw; clear hSw; go_simp; try with_reducible rfl)
  (try simp only [List.getElem_toArray, List.getElem_cons_zero, List.getElem_cons_succ, Act.put, List.setIfInBounds_toArray, List.set_cons_zero, List.set_cons_succ])
  refine wpAnyH_take (i := 18) (v := ?_) rfl (by kernel_rfl) (by kernel_rfl) (by kernel_rfl) (fun _ _ _ h => h) (Or.inl ⟨by rfl, ?_⟩) (by assumption) ?_
  rotate_left 1
  · (intro w hSw; obtain ⟨c1, c2, c3, c4, c5⟩ := HC.out _ hSw; go_simp; try with_reducible rfl)
  (try simp only [List.getElem_toArray, List.getElem_cons_zero, List.getElem_cons_succ, Act.put, List.setIfInBounds_toArray, List.set_cons_zero, List.set_cons_succ])
  refine wpAnyH_ready (rs := [4]) (by kernel_rfl) (by simp) ?_
  refine AllReadyH.cons rfl (fun K hK => ?_) AllReadyH.nil
  go_simp
  refine Calls.mono (new_c _ _ _) ?_
  rintro e w2 ⟨rfl, huw2, hhw2⟩
  go_wp2_with fail
  refine hK.out _ _ (hHeld.trans' huw2) (fun hHeld => ?_)
  clear hK K
  have hb2 : ∀ w', Upd [] w2 w' → w'.cell? ⟨w1.heap.size, 0, none⟩ = some (i64 (clamp c.rate 1048576)) ∧ w'.cell? ⟨w1.heap.size, 1, none⟩ = some (i64 (clamp c.burst 1048576)) ∧ w'.cell? ⟨w1.heap.size, 2, none⟩ = some (i64 (clamp c.burst 1048576)) := fun w' hu => by
    obtain ⟨b0, b1, b2, -⟩ := cells3 (hu.keep0 hhw2)
    exact ⟨b0, b1, b2⟩
  have HB2 := Lib.hid hb2
  clear hb2
  refine wpAnyH_mono (S' := fun w' => Upd [] w2 w') (fun _ h => hHeld.trans' h) _ _ _ _ ?_
  have hx2 := hHeld
  replace hHeld := Upd.refl [] w2
  refine wpAnyH_take (i := 5) (v := ?_) rfl (by kernel_rfl) (by kernel_rfl) (by kernel_rfl) (fun _ _ _ h => h) (Or.inl ⟨by rfl, ?_⟩) (by assumption) ?_
  rotate_left 1
  · (intro w hSw; clear hSw; go_simp; try with_reducible rfl)
  (try simp only [List.getElem_toArray, List.getElem_cons_zero, List.getElem_cons_succ, Act.put, List.setIfInBounds_toArray, List.set_cons_zero, List.set_cons_succ])
  refine wpAnyH_take (i := 6) (v := ?_) rfl (by kernel_rfl) (by kernel_rfl) (by kernel_rfl) (fun _ _ _ h => h) (Or.inl ⟨by rfl, ?_⟩) (by assumption) ?_
  rotate_left 1
  · (intro w hSw; obtain ⟨b0, b1, b2⟩ := HB2.out _ hSw; go_simp; try with_reducible rfl)
  (try simp only [List.getElem_toArray, List.getElem_cons_zero, List.getElem_cons_succ, Act.put, List.setIfInBounds_toArray, List.set_cons_zero, List.set_cons_succ])
  refine wpAnyH_ready (rs := [9]) (by kernel_rfl) (by simp) ?_
  refine AllReadyH.cons rfl (fun K hK => ?_) AllReadyH.nil
  go_simp
  refine Calls.mono (anew_c _ _) ?_
  rintro e w3 ⟨rfl, huw3, hhw3⟩
  go_wp2_with fail
  refine hK.out _ _ (hHeld.trans' huw3) (fun hHeld => ?_)
  clear hK K
  have hb3 : ∀ w', Upd [] w3 w' → w'.cell? ⟨w2.heap.size, 0, none⟩ = some (i64 (max 0 (min c.mem 1048576))) ∧ w'.cell? ⟨w2.heap.size, 1, none⟩ = some (i64 0) := fun w' hu => by
    obtain ⟨b0, b1, -⟩ := cells2 (hu.keep0 hhw3)
    exact ⟨b0, b1⟩
  have HB3 := Lib.hid hb3
  clear hb3
  refine wpAnyH_mono (S' := fun w' => Upd [] w3 w') (fun _ h => hHeld.trans' h) _ _ _ _ ?_
  have hx3 := hHeld
  replace hHeld := Upd.refl [] w3
  refine wpAnyH_take (i := 10) (v := ?_) rfl (by kernel_rfl) (by kernel_rfl) (by kernel_rfl) (fun _ _ _ h => h) (Or.inl ⟨by rfl, ?_⟩) (by assumption) ?_
  rotate_left 1
  · (intro w hSw; clear hSw; go_simp; try with_reducible rfl)
  (try simp only [List.getElem_toArray, List.getElem_cons_zero, List.getElem_cons_succ, Act.put, List.setIfInBounds_toArray, List.set_cons_zero, List.set_cons_succ])
  refine wpAnyH_take (i := 11) (v := ?_) rfl (by kernel_rfl) (by kernel_rfl) (by kernel_rfl) (fun _ _ _ h => h) (Or.inl ⟨by rfl, ?_⟩) (by assumption) ?_
  rotate_left 1
  · (intro w hSw; obtain ⟨b0, b1⟩ := HB3.out _ hSw; go_simp; try with_reducible rfl)
  (try simp only [List.getElem_toArray, List.getElem_cons_zero, List.getElem_cons_succ, Act.put, List.setIfInBounds_toArray, List.set_cons_zero, List.set_cons_succ])
  refine wpAnyH_ready (rs := [14]) (by kernel_rfl) (by simp) ?_
  refine AllReadyH.cons rfl (fun K hK => ?_) AllReadyH.nil
  go_simp
  refine Calls.mono (anew_c _ _) ?_
  rintro e w4 ⟨rfl, huw4, hhw4⟩
  go_wp2_with fail
  refine hK.out _ _ (hHeld.trans' huw4) (fun hHeld => ?_)
  clear hK K
  have hb4 : ∀ w', Upd [] w4 w' → w'.cell? ⟨w3.heap.size, 0, none⟩ = some (i64 (max 0 (min c.slots 1048576))) ∧ w'.cell? ⟨w3.heap.size, 1, none⟩ = some (i64 0) := fun w' hu => by
    obtain ⟨b0, b1, -⟩ := cells2 (hu.keep0 hhw4)
    exact ⟨b0, b1⟩
  have HB4 := Lib.hid hb4
  clear hb4
  refine wpAnyH_mono (S' := fun w' => Upd [] w4 w') (fun _ h => hHeld.trans' h) _ _ _ _ ?_
  have hx4 := hHeld
  replace hHeld := Upd.refl [] w4
  refine wpAnyH_take (i := 15) (v := ?_) rfl (by kernel_rfl) (by kernel_rfl) (by kernel_rfl) (fun _ _ _ h => h) (Or.inl ⟨by rfl, ?_⟩) (by assumption) ?_
  rotate_left 1
  · (intro w hSw; clear hSw; go_simp; try with_reducible rfl)
  (try simp only [List.getElem_toArray, List.getElem_cons_zero, List.getElem_cons_succ, Act.put, List.setIfInBounds_toArray, List.set_cons_zero, List.set_cons_succ])
  refine wpAnyH_take (i := 16) (v := ?_) rfl (by kernel_rfl) (by kernel_rfl) (by kernel_rfl) (fun _ _ _ h => h) (Or.inl ⟨by rfl, ?_⟩) (by assumption) ?_
  rotate_left 1
  · (intro w hSw; obtain ⟨b0, b1⟩ := HB4.out _ hSw; go_simp; try with_reducible rfl)
  (try simp only [List.getElem_toArray, List.getElem_cons_zero, List.getElem_cons_succ, Act.put, List.setIfInBounds_toArray, List.set_cons_zero, List.set_cons_succ])
  refine wpAnyH_ready (rs := [19]) (by kernel_rfl) (by simp) ?_
  refine AllReadyH.cons rfl (fun K hK => ?_) AllReadyH.nil
  go_simp
  refine Calls.mono (anew_c _ _) ?_
  rintro e w5 ⟨rfl, huw5, hhw5⟩
  go_wp2_with fail
  refine hK.out _ _ (hHeld.trans' huw5) (fun hHeld => ?_)
  clear hK K
  have hb5 : ∀ w', Upd [] w5 w' → w'.cell? ⟨w4.heap.size, 0, none⟩ = some (i64 (max 0 (min c.outs 1048576))) ∧ w'.cell? ⟨w4.heap.size, 1, none⟩ = some (i64 0) := fun w' hu => by
    obtain ⟨b0, b1, -⟩ := cells2 (hu.keep0 hhw5)
    exact ⟨b0, b1⟩
  have HB5 := Lib.hid hb5
  clear hb5
  refine wpAnyH_mono (S' := fun w' => Upd [] w5 w') (fun _ h => hHeld.trans' h) _ _ _ _ ?_
  have hx5 := hHeld
  replace hHeld := Upd.refl [] w5
  refine wpAnyH_take (i := 20) (v := ?_) rfl (by kernel_rfl) (by kernel_rfl) (by kernel_rfl) (fun _ _ _ h => h) (Or.inl ⟨by rfl, ?_⟩) (by assumption) ?_
  rotate_left 1
  · (intro w hSw; clear hSw; go_simp; try with_reducible rfl)
  (try simp only [List.getElem_toArray, List.getElem_cons_zero, List.getElem_cons_succ, Act.put, List.setIfInBounds_toArray, List.set_cons_zero, List.set_cons_succ])
  refine wpAnyH_take (i := 21) (v := ?_) rfl (by kernel_rfl) (by kernel_rfl) (by kernel_rfl) (fun _ _ _ h => h) (Or.inl ⟨by rfl, ?_⟩) (by assumption) ?_
  rotate_left 1
  · (intro w hSw; obtain ⟨b0, b1⟩ := HB5.out _ hSw; go_simp; try with_reducible rfl)
  (try simp only [List.getElem_toArray, List.getElem_cons_zero, List.getElem_cons_succ, Act.put, List.setIfInBounds_toArray, List.set_cons_zero, List.set_cons_succ])
  refine wpAnyH_take (i := 22) (v := ?_) rfl (by kernel_rfl) (by kernel_rfl) (by kernel_rfl) (fun _ _ _ h => h) (Or.inl ⟨by rfl, ?_⟩) (by assumption) ?_
  rotate_left 1
  · (intro w hSw; clear hSw; go_simp; try with_reducible rfl)
  (try simp only [List.getElem_toArray, List.getElem_cons_zero, List.getElem_cons_succ, Act.put, List.setIfInBounds_toArray, List.set_cons_zero, List.set_cons_succ])
  refine wpAnyH_ready (rs := [23]) (by kernel_rfl) (by simp) ?_
  refine AllReadyH.cons rfl (fun K hK => ?_) AllReadyH.nil
  go_simp
  refine hK.out _ _ (hHeld.alloc _) (fun hHeld => ?_)
  clear hK K
  refine wpAnyH_take (i := 24) (v := ?_) rfl (by kernel_rfl) (by kernel_rfl) (by kernel_rfl) (fun _ _ _ h => h) (Or.inl ⟨by rfl, ?_⟩) (by assumption) ?_
  rotate_left 1
  · (intro w hSw; clear hSw; go_simp; try with_reducible rfl)
  (try simp only [List.getElem_toArray, List.getElem_cons_zero, List.getElem_cons_succ, Act.put, List.setIfInBounds_toArray, List.set_cons_zero, List.set_cons_succ])
  refine wpAnyH_done (by kernel_rfl) ?_ _
  go_wp2_with fail
  refine hR.out _ _ ⟨_, rfl, heap_alloc_new _ _, ?_, ?_⟩
  · exact (hu0.trans' (hx2.trans' (hx3.trans' (hx4.trans' hx5)))).alloc _
  · exact (hu0.trans' (hx2.trans' (hx3.trans' (hx4.trans' hx5)))).size
end Go.Proofs.Ytnhanldefebjbaa

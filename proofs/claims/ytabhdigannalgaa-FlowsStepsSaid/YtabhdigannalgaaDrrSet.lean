/-
  The contract of the ring's Set. Condition: the ring is one that its own functions made.
-/
import Derived.Test.YtabhdigannalgaaDrr
import Derived.WalkSpells
namespace Go.Proofs.Ytabhdigannalgaa
open Go Go.RowKit Go.Maps

theorem dnum_c (n : Int) (hn : 0 ≤ n ∧ n ≤ 8) (w : World) : Calls Try.prog 50 #[i64 n] w fun e w' => e = .returned (.bool true) ∧ w = w' := by
  obtain ⟨h1, h2⟩ := hn
  refine post fun R hR => ?_
  go_enter Try.func50, Try.ntmps50
  go_wp2_with fail
  exact hR.out _ _ ⟨rfl, rfl⟩
theorem dnumNot_c (n : Int) (hn : n < 0 ∨ 8 < n) (w : World) : Calls Try.prog 50 #[i64 n] w fun e w' => e = .returned (.bool false) ∧ w = w' := by
  rcases hn with h | h
  · refine post fun R hR => ?_
    go_enter Try.func50, Try.ntmps50
    go_wp2_with fail
    exact hR.out _ _ ⟨rfl, rfl⟩
  · have h0 : 0 ≤ n := by omega
    refine post fun R hR => ?_
    go_enter Try.func50, Try.ntmps50
    go_wp2_with fail
    exact hR.out _ _ ⟨by (rw [decide_eq_false (by omega : ¬ n ≤ 8)]; try rfl), rfl⟩

theorem minR {P : Program} (ats : Array TypeId) (ty : TypeId) (x y : Int) (w : World) : (Builtin.min_ ats ty #[i64 x, i64 y]).run P w = .ok (i64 (min x y)) w := by
  rw [run_min_int2]
  congr 2
  split <;> omega

theorem cells_ne {w : World} {a b : Nat} {x y : Array Value} {t u : TypeId} {p q : Nat × Nat} (ha : w.heap[a]? = some (.cells x t p)) (hb : w.heap[b]? = some (.cells y u q)) (h : t ≠ u) : a ≠ b := by
  rintro rfl
  have hx := ha.symm.trans hb
  injection hx with hx; injection hx with _ hx
  exact h hx

/-- a type of which a ring's block may be -/
structure RTy (ty : TypeId) : Prop where
  f : ty ≠ 98
  p : ty ≠ 96
  i : ty ≠ 3
theorem rcells {w : World} {b : Nat} {ty : TypeId} {tl : List Value} {v0 v1 : Value} (h : w.heap[b]? = some (.cells (v0 :: v1 :: tl).toArray ty (0, 0))) : w.cell? ⟨b, 0, none⟩ = some v0 ∧ w.cell? ⟨b, 1, none⟩ = some v1 ∧ w.frozen? ⟨b, 0, none⟩ = false ∧ w.frozen? ⟨b, 1, none⟩ = false :=
  ⟨by rw [cellOf h 0]; simp, by rw [cellOf h 1]; simp, frzOf h 0, frzOf h 1⟩
theorem rset_0 {w : World} {b : Nat} {ty : TypeId} {tl : List Value} {fr : Nat × Nat} {v0 v1 v : Value} (h : w.heap[b]? = some (.cells (v0 :: v1 :: tl).toArray ty fr)) : (w.setCell ⟨b, 0, none⟩ v).heap[b]? = some (.cells (v :: v1 :: tl).toArray ty fr) := by
  rw [heap_setCell h 0 v]; simp
theorem rset_1 {w : World} {b : Nat} {ty : TypeId} {tl : List Value} {fr : Nat × Nat} {v0 v1 v : Value} (h : w.heap[b]? = some (.cells (v0 :: v1 :: tl).toArray ty fr)) : (w.setCell ⟨b, 1, none⟩ v).heap[b]? = some (.cells (v0 :: v :: tl).toArray ty fr) := by
  rw [heap_setCell h 1 v]; simp

/-- a flow's block -/
abbrev FlAt (w : World) (F : Nat) (n q d : Int) (cv : Value) (rs an : Bool) : Prop := w.heap[F]? = some (.cells #[i64 n, i64 q, i64 d, cv, .bool rs, .bool an] 98 (0, 0))

set_option maxRecDepth 100000 in
set_option maxHeartbeats 1000000 in
/-- the first flow of all -/
theorem dset0_c {ty : TypeId} {tl : List Value} (_hty : RTy ty) {w : World} {b : Nat} {rv : Value} (hb : w.heap[b]? = some (.cells (.map none :: rv :: tl).toArray ty (0, 0))) {n q : Int} (hn : 0 ≤ n ∧ n ≤ 8) (hq : 1 ≤ q ∧ q ≤ 1048576) :
    Calls Try.prog 11 #[.pointer (some ⟨b, 0, none⟩), i64 n, i64 q] w fun e w' => ∃ M F, e = .returned (i64 0) ∧ w'.heap[b]? = some (.cells (.map (some M) :: rv :: tl).toArray ty (0, 0)) ∧ w.heap.size ≤ M ∧ w.heap.size ≤ F ∧ M ≠ F ∧
      FlMap w' M 1 (fun j => if j = n then some F else none) ∧ FlAt w' F n q 0 (.slice none 0 0) false false ∧ Upd [b] w w' := by
  have hk : (Lit.int .i64 n).wf = true := iwf (by omega)
  have hlt := lt_of_heap hb
  obtain ⟨c0, -, f0, -⟩ := rcells hb
  have hmm := @run_makeMap Try.prog
  obtain ⟨W1, hW1⟩ : ∃ W1, W1 = (w.setCell ⟨b, 0, none⟩ (.map (some w.heap.size))).alloc (.map #[] 0) := ⟨_, rfl⟩
  have hb1 : W1.heap[b]? = some (.cells (.map (some w.heap.size) :: rv :: tl).toArray ty (0, 0)) := by rw [hW1]; exact heap_alloc_old (rset_0 hb) _
  have hm1 : FlMap W1 w.heap.size 0 (fun _ => none) := by rw [hW1]; simpa using flMap_new (w.setCell ⟨b, 0, none⟩ (.map (some w.heap.size)))
  have hu1 : Upd [b] w W1 := by rw [hW1]; exact ((Upd.refl _ _).setCell (by simp) _).alloc _
  have hs1 : W1.heap.size = w.heap.size + 1 := by rw [hW1]; simp
  have hlook : (Instr.lookup 25 (.map (some w.heap.size)) (i64 n) false).run Try.prog W1 = .ok (.pointer none) W1 := hm1.look hk
  have hm2 : FlMap (W1.alloc (.cells #[i64 n, i64 0, i64 0, .slice none 0 0, .bool false, .bool false] 98)) w.heap.size 0 (fun _ => none) := hm1.upd ((Upd.refl [] _).alloc _) (by simp)
  obtain ⟨w3, hput, hm3, hu3⟩ := hm2.put (by unfold maxLen; omega) hk (w.heap.size + 1)
  have hb3 := hu3.keep (heap_alloc_old hb1 _) (by simp; omega)
  have hf3 := hu3.keep (heap_alloc_new W1 (.cells #[i64 n, i64 0, i64 0, .slice none 0 0, .bool false, .bool false] 98)) (by simp; omega)
  rw [hs1] at hf3
  have hmn : ∀ (ats : Array TypeId) (ty : TypeId) (w : World), (Builtin.min_ ats ty #[i64 0, i64 q]).run Try.prog w = .ok (i64 0) w := fun ats ty w => by rw [minR, show min (0 : Int) q = 0 by omega]
  have hq0 := run_eql_map_nil (P := Try.prog) w 25 _ _ none Try.underlying25
  have hu3' : Upd [b] w w3 := ((hu1.alloc _)).trans hu3 (by intro g hg; simp at hg; subst hg; exact .inr (Nat.le_refl _))
  obtain ⟨k0, -, g0, -⟩ := rcells hb1
  obtain ⟨k3, -, g3, -⟩ := rcells hb3
  obtain ⟨p0, p1, p2, p3, p4, p5, y0, y1, y2, y3, y4, y5⟩ := cells6 hf3
  have HM3 := Lib.hid hm3
  have HB3 := Lib.hid hb3
  have HF3 := Lib.hid hf3
  have HU3 := Lib.hid hu3'
  have hbF : b ≠ w.heap.size + 1 := by omega
  have hbM : b ≠ w.heap.size := by omega
  clear hm1 hm2 hu1 hb hb1 hb3 hf3 hm3 hu3 hu3' hs1
  subst hW1
  refine post fun R hR => ?_
  go_enter Try.func11, Try.ntmps11
  go_wp2_with (fail)
  refine Calls.mono (dnum_c n hn _) ?_
  rintro e w2 ⟨rfl, rfl⟩
  obtain ⟨hn1, hn2⟩ := hn
  obtain ⟨hq1, hq2⟩ := hq
  go_wp2_with (fail)
  refine hR.out _ _ ⟨w.heap.size, w.heap.size + 1, rfl, ?_, Nat.le_refl _, by omega, by omega, ?_, ?_, ?_⟩
  · exact heap_setCell_ne (heap_setCell_ne HB3.out (by omega) _ _) (by omega) _ _
  · exact HM3.out.upd (((Upd.refl [w.heap.size + 1] w3).setCell (by simp) _).setCell (by simp) _) (by simp)
  · exact hset6_2 (hset6_1 HF3.out)
  · exact (HU3.out.setCell (.inr (by simp)) _).setCell (.inr (by simp)) _

set_option maxRecDepth 100000 in
set_option maxHeartbeats 1000000 in
/-- a flow that there was not -/
theorem dset1_c {ty : TypeId} {tl : List Value} (_hty : RTy ty) {w : World} {b M N : Nat} {rv : Value} {f : Int → Option Nat} (hb : w.heap[b]? = some (.cells (.map (some M) :: rv :: tl).toArray ty (0, 0))) (hm : FlMap w M N f) (hMb : M ≠ b) (hN : N < maxLen) {n q : Int} (hn : 0 ≤ n ∧ n ≤ 8) (hq : 1 ≤ q ∧ q ≤ 1048576) (hf : f n = none) :
    Calls Try.prog 11 #[.pointer (some ⟨b, 0, none⟩), i64 n, i64 q] w fun e w' => e = .returned (i64 0) ∧ w'.heap[b]? = some (.cells (.map (some M) :: rv :: tl).toArray ty (0, 0)) ∧
      FlMap w' M (N + 1) (fun j => if j = n then some w.heap.size else f j) ∧ FlAt w' w.heap.size n q 0 (.slice none 0 0) false false ∧ Upd [M] w w' := by
  have hk : (Lit.int .i64 n).wf = true := iwf (by omega)
  have hlt := lt_of_heap hb
  have hltM : M < w.heap.size := by obtain ⟨D, h1, _⟩ := hm; exact h1.lt
  obtain ⟨c0, -, f0, -⟩ := rcells hb
  have hlook : (Instr.lookup 25 (.map (some M)) (i64 n) false).run Try.prog w = .ok (.pointer none) w := by have := hm.look hk; rw [hf] at this; exact this
  have hm2 : FlMap (w.alloc (.cells #[i64 n, i64 0, i64 0, .slice none 0 0, .bool false, .bool false] 98)) M N f := hm.upd ((Upd.refl [] _).alloc _) (by simp)
  obtain ⟨w3, hput, hm3, hu3⟩ := hm2.put hN hk w.heap.size
  have hb3 := hu3.keep (heap_alloc_old hb _) (by simp; omega)
  have hf3 := hu3.keep (heap_alloc_new w (.cells #[i64 n, i64 0, i64 0, .slice none 0 0, .bool false, .bool false] 98)) (by simp; omega)
  have hmn : ∀ (ats : Array TypeId) (ty : TypeId) (w : World), (Builtin.min_ ats ty #[i64 0, i64 q]).run Try.prog w = .ok (i64 0) w := fun ats ty w => by rw [minR, show min (0 : Int) q = 0 by omega]
  have hq0 := run_eql_map_nil (P := Try.prog) w 25 _ _ (some M) Try.underlying25
  have hu3' : Upd [M] w w3 := ((Upd.refl _ _).alloc _).trans' hu3
  obtain ⟨k3, -, g3, -⟩ := rcells hb3
  obtain ⟨p0, p1, p2, p3, p4, p5, y0, y1, y2, y3, y4, y5⟩ := cells6 hf3
  have HM3 := Lib.hid hm3
  have HB3 := Lib.hid hb3
  have HF3 := Lib.hid hf3
  have HU3 := Lib.hid hu3'
  clear hm hm2 hb hb3 hf3 hm3 hu3 hu3'
  refine post fun R hR => ?_
  go_enter Try.func11, Try.ntmps11
  go_wp2_with (fail)
  refine Calls.mono (dnum_c n hn _) ?_
  rintro e w2 ⟨rfl, rfl⟩
  obtain ⟨hn1, hn2⟩ := hn
  obtain ⟨hq1, hq2⟩ := hq
  go_wp2_with (fail)
  refine hR.out _ _ ⟨rfl, ?_, ?_, ?_, ?_⟩
  · exact heap_setCell_ne (heap_setCell_ne HB3.out (by omega) _ _) (by omega) _ _
  · exact HM3.out.upd (((Upd.refl [w.heap.size] w3).setCell (by simp) _).setCell (by simp) _) (by simp; omega)
  · exact hset6_2 (hset6_1 HF3.out)
  · exact (HU3.out.setCell (.inr (by simp)) _).setCell (.inr (by simp)) _
end Go.Proofs.Ytabhdigannalgaa

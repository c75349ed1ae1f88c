/-
  Chapter 40's example. No condition.
-/
import Derived.Test.YtabhdigannalgaaFlwDrop
namespace Go.Proofs.Ytabhdigannalgaa
open Go Go.RowKit Go.Maps

def wx5 : It := ⟨5, 0, 0, ⟨#[]⟩, 0⟩
def wx6 : It := ⟨6, 0, 0, ⟨#[]⟩, 0⟩
def wr2 : Rg := (Rg.new.set 1 1040).set 2 1040
def wr3 : Rg := wr2.push 2 16
def wr4 : Rg := wr3.push 1 16
def wi0 : Nat → List It := fun _ => []
def wi3 : Nat → List It := updN wi0 2 [wx5]
def wi4 : Nat → List It := updN wi3 1 [wx6]
theorem wc5 : wx5.cost = 16 := by decide
theorem wc6 : wx6.cost = 16 := by decide
theorem we3 : wr2.pushE 2 16 = 0 := by decide +kernel
theorem we4 : wr3.pushE 1 16 = 0 := by decide +kernel
theorem wp3 : pushI wr2 wi0 2 wx5 = wi3 := by
  unfold pushI
  rw [if_neg (by decide +kernel)]
  rfl
theorem wp4 : pushI wr3 wi3 1 wx6 = wi4 := by
  unfold pushI
  rw [if_neg (by decide +kernel)]
  rfl
theorem wt1 : wr4.turn.n = 2 ∧ wr4.turn.ok = true := by decide +kernel
theorem wt2 : wr4.turn.r.turn.n = 1 ∧ wr4.turn.r.turn.ok = true := by decide +kernel
theorem wn1 : nextX wr4 wi4 = wx5 := by unfold nextX; rw [if_pos wt1.2, wt1.1]; rfl
theorem wv5 : iv wx5 = .agg #[i64 5, i64 0, i64 0, .string ⟨#[]⟩, i64 0] := rfl
theorem wv6 : iv wx6 = .agg #[i64 6, i64 0, i64 0, .string ⟨#[]⟩, i64 0] := rfl
theorem wn2 : nextX wr4.turn.r (nextI wr4 wi4) = wx6 := by unfold nextX nextI; rw [if_pos wt2.2, wt2.1, if_pos wt1.2, wt1.1]; rfl

set_option maxRecDepth 100000 in
set_option maxHeartbeats 2000000 in
theorem flwAwake_c (w : World) : Calls Try.prog 29 #[] w fun e w' => e = .returned (.bool true) ∧ Upd [] w w' := by
  refine post fun R hR => ?_
  go_enter Try.func29, Try.ntmps29
  go_wp2_with (fail)
  refine Calls.mono (fnew_c _) ?_
  rintro e w1 ⟨b, rfl, hu, hA⟩
  go_wp2_with (fail)
  refine Calls.mono (fset_c hA (by omega) 1 1040) ?_
  rintro e w2 ⟨rfl, hp, hA2⟩
  have hs := hu.size
  replace hu := hu.transP hp (fun x q => q)
  replace hA := hA2.zb' hs
  clear hp hA2 hs
  go_wp2_with (fail)
  refine Calls.mono (fset_c hA (by omega) 2 1040) ?_
  rintro e w2 ⟨rfl, hp, hA2⟩
  have hs := hu.size
  replace hu := hu.transP hp (fun x q => q)
  replace hA := hA2.zb' hs
  clear hp hA2 hs
  change FwAt _ _ _ _ wr2 wi0 at hA
  have h3 := fpush_c hA (by omega) (n := 2) ⟨by decide, by decide⟩ wx5 (by decide)
  rw [wc5, we3, wp3] at h3
  change Calls _ _ _ _ (fun e w' => _ ∧ _ ∧ FwAt _ _ _ _ wr3 wi3) at h3
  have H3 := Lib.hid h3
  clear h3 hA
  go_wp2_with (fail)
  refine H3.out.mono ?_
  rintro e w2 ⟨rfl, hp, hA2⟩
  have hs := hu.size
  replace hu := hu.transP hp (fun x q => q)
  have hA := hA2.zb' hs
  clear hp hA2 hs H3
  have h4 := fpush_c hA (by omega) (n := 1) ⟨by decide, by decide⟩ wx6 (by decide)
  rw [wc6, we4, wp4] at h4
  change Calls _ _ _ _ (fun e w' => _ ∧ _ ∧ FwAt _ _ _ _ wr4 wi4) at h4
  have H4 := Lib.hid h4
  clear h4 hA
  go_wp2_with (fail)
  refine H4.out.mono ?_
  rintro e w3 ⟨rfl, hp, hA2⟩
  have hs := hu.size
  replace hu := hu.transP hp (fun x q => q)
  have hA := hA2.zb' hs
  clear hp hA2 hs H4
  have h5 := fnext_c hA (by omega)
  rw [wt1.1, wt1.2, wn1, wv5] at h5
  have H5 := Lib.hid h5
  clear h5 hA
  go_wp2_with (fail)
  refine H5.out.mono ?_
  rintro e w4 ⟨rfl, hp, hA2⟩
  have hs := hu.size
  replace hu := hu.transP hp (fun x q => q)
  have hA := hA2.zb' hs
  clear hp hA2 hs H5
  go_upto_region 7 with (fail)
  have hA0 := heap_alloc_new w4 (.cells #[i64 5, i64 0, i64 0, .string ⟨#[]⟩, i64 0] 74)
  have hu0 := (Upd.refl [] w4).alloc (.cells #[i64 5, i64 0, i64 0, .string ⟨#[]⟩, i64 0] 74)
  have hA5 := hA.cut.upd0 hu0
  have hnz : ¬ cutZ (ZB w.heap.size) w4 w4.heap.size := fun q => by have := q.2; omega
  have hzz : ∀ x, cutZ (ZB w.heap.size) w4 x → w.heap.size ≤ x := fun x q => q.1
  have hu5 := hu.trans' hu0
  clear hA hu hu0
  generalize w4.alloc (.cells #[i64 5, i64 0, i64 0, .string ⟨#[]⟩, i64 0] 74) = w5 at *
  generalize w4.heap.size = A at *
  generalize cutZ (ZB w.heap.size) w4 = Z5 at *
  have hlt := lt_of_heap hA0
  have h6 := fnext_c hA5 (by omega)
  rw [wt2.1, wt2.2, wn2, wv6] at h6
  have H6 := Lib.hid h6
  have HN := Lib.hid hnz
  have HZ := Lib.hid hzz
  clear h6 hA5 hnz hzz
  go_upto_region 8 with (go_at_call 36; refine H6.out.mono ?_; rintro e w6 ⟨rfl, hp, -⟩; have hA6 := hp.keep hA0 HN.out; have hu6 := hu5.transP hp HZ.out; have hlt6 := lt_of_heap hA6; clear hp hA0 hu5)
  have hB := heap_alloc_new w6 (.cells #[i64 6, i64 0, i64 0, .string ⟨#[]⟩, i64 0] 74)
  have hA7 := heap_alloc_old hA6 (.cells #[i64 6, i64 0, i64 0, .string ⟨#[]⟩, i64 0] 74)
  have hu7 := hu6.alloc (.cells #[i64 6, i64 0, i64 0, .string ⟨#[]⟩, i64 0] 74)
  clear hA6 hu6 hlt6
  generalize w6.alloc (.cells #[i64 6, i64 0, i64 0, .string ⟨#[]⟩, i64 0] 74) = w7 at *
  generalize w6.heap.size = B at *
  have hlt7 := lt_of_heap hA7
  have hlt8 := lt_of_heap hB
  have hcA : w7.cell? ⟨A, 0, none⟩ = some (i64 5) := cellOf hA7 0
  have hcB : w7.cell? ⟨B, 0, none⟩ = some (i64 6) := cellOf hB 0
  clear hA7 hB
  go_wp2_with (fail)
  exact hR.out _ _ ⟨rfl, hu7⟩
end Go.Proofs.Ytabhdigannalgaa
